/- What a step does to the blocks of ours: a new one, one written, one moved, one dropped. -/
import Derived.Test.YtepdflohpondbaaFwB
import Derived.Laws.IdiomCopy
import Derived.Laws.Append
namespace Go.Fw

theorem own_of {ρ : Nat → Option (Nat × Nat)} {h : AHeap} {id b o : Nat} {blk : Blk} (h1 : h id = some blk) (h2 : blk.ro = false) (h3 : ρ id = some (b, o)) : own ρ h b := ⟨id, blk, o, h1, h2, h3⟩

theorem RelB.block {ρ : Nat → Option (Nat × Nat)} {S : Nat → Prop} {w : World} {id : Nat} {blk : Blk} (h : RelB ρ S w id blk) : ∃ b o, ρ id = some (b, o) ∧ (w.heap[b]?).isSome := by
  cases blk with
  | cells cs ro => obtain ⟨b, o, arr, ty, fz, h1, h2, _⟩ := h; exact ⟨b, o, h1, by simp [h2]⟩
  | map es clock => obtain ⟨b, ents, h1, h2, _⟩ := h; exact ⟨b, 0, h1, by simp [h2]⟩

/-- A block that hasn't turned stands for what it stood for. -/
theorem RelB.keep {ρ ρ' : Nat → Option (Nat × Nat)} {S S' : Nat → Prop} {w w' : World} {id : Nat} {blk : Blk} (h : RelB ρ S w id blk) (he : Ext S w w') (hS : ∀ b, S b → S' b)
    (hρ : ∀ id x, ρ id = some x → ρ' id = some x) (hk : ∀ b o, ρ id = some (b, o) → w'.heap[b]? = w.heap[b]?) (hn : ∀ b o, ρ id = some (b, o) → blk.ro = false → S' b → S b) : RelB ρ' S' w' id blk := by
  cases blk with
  | cells cs ro =>
    obtain ⟨b, o, arr, ty, fz, h1, h2, hl, h3, h4, h5⟩ := h
    refine ⟨b, o, arr, ty, fz, hρ _ _ h1, by rw [hk b o h1]; exact h2, hl, fun i c hc => ?_, h4, ?_⟩
    · obtain ⟨e1, v, e2, e3⟩ := h3 i c hc
      exact ⟨e1, v, e2, e3.ext he hS hρ⟩
    · cases ro with
      | true => exact hS _ h5
      | false => exact fun hs => h5 (hn b o h1 rfl hs)
  | map es clock =>
    obtain ⟨b, ents, h1, h2, h3, h4, h5⟩ := h
    refine ⟨b, ents, hρ _ _ h1, by rw [hk b 0 h1]; exact h2, h3, fun i k x n hx => ?_, fun hs => h5 (hn b 0 h1 rfl hs)⟩
    obtain ⟨m, e1, e2, e3, e4⟩ := h4 i k x n hx
    exact ⟨m, e1, e2.ext he hS hρ, e3.ext he hS hρ, e4⟩

section
variable {ρ : Nat → Option (Nat × Nat)} {S : Nat → Prop} {h : AHeap} {w : World}

theorem upd_some {ρ : Nat → Option (Nat × Nat)} {n : Nat} {x : Nat × Nat} (hn : ρ n = none) : ∀ id y, ρ id = some y → upd ρ n (some x) id = some y := fun id y hy => by
  by_cases e : id = n
  · subst e; rw [hn] at hy; cases hy
  · rw [upd_ne _ _ e]; exact hy

theorem Ext.alloc (r : RelH ρ S h w) (o : Obj) : Ext S w (w.alloc o) :=
  ⟨fun b hb => by
      have := r.bound b hb
      simp only [World.alloc, Array.getElem?_push]; rw [if_neg (by omega)],
    fun b arr ty fz hx => ⟨arr, fz, by
      have : b < w.heap.size := (Array.getElem?_eq_some_iff.1 hx).1
      simp only [World.alloc, Array.getElem?_push]; rw [if_neg (by omega)]; exact hx, rfl⟩⟩

theorem heap_alloc_lt (w : World) (o : Obj) {b : Nat} (hb : b < w.heap.size) : (w.alloc o).heap[b]? = w.heap[b]? := by
  simp only [World.alloc, Array.getElem?_push]; rw [if_neg (by omega)]
theorem heap_alloc_self (w : World) (o : Obj) : (w.alloc o).heap[w.heap.size]? = some o := by
  simp only [World.alloc, Array.getElem?_push]; simp

/-- Nothing in it is frozen. -/
def Calm (x : Obj) : Prop := ∀ arr ty fz, x = .cells arr ty fz → fz = (0, 0)

theorem frozen_alloc {w : World} {x : Obj} (hx : Calm x) (a : Addr) : (w.alloc x).frozen? a = w.frozen? a := by
  simp only [World.frozen?]
  rcases Nat.lt_trichotomy a.block w.heap.size with h | h | h
  · rw [heap_alloc_lt w x h]
  · rw [h, heap_alloc_self, Array.getElem?_eq_none (Nat.le_refl _)]
    cases x with
    | cells arr ty fz => have := hx arr ty fz rfl; subst this; simp
    | _ => rfl
  · rw [Array.getElem?_eq_none (by simp; omega), Array.getElem?_eq_none (by omega)]

theorem Fr.alloc (o : Nat → Prop) (w : World) (x : Obj) (hx : Calm x) : Fr o w (w.alloc x) :=
  ⟨rfl, rfl, rfl, by simp, fun b hb _ => heap_alloc_lt w x hb, fun b arr ty fz hx => ⟨arr, fz, by rw [heap_alloc_lt w x (Array.getElem?_eq_some_iff.1 hx).1]; exact hx, rfl⟩, fun x _ => frozen_alloc hx x⟩

/-- A new block. -/
theorem RelH.new (r : RelH ρ S h w) {n : Nat} (hn : ρ n = none) (x : Obj) (hcalm : Calm x) (blk : Blk)
    (hb : RelB (upd ρ n (some (w.heap.size, 0))) S (w.alloc x) n blk) :
    RelH (upd ρ n (some (w.heap.size, 0))) S (upd h n (some blk)) (w.alloc x) ∧ Adv ρ S h w (upd ρ n (some (w.heap.size, 0))) S (upd h n (some blk)) (w.alloc x) := by
  refine ⟨⟨fun id b hx => ?_, fun id id' b b' i o i' o' hx hx' hi hi' hne => ?_, fun b hs => by have := r.bound b hs; simp; omega, fun id b o hx => ?_, fun i x y hx => by
    by_cases e : i = n
    · subst e; rw [upd_eq] at hx; injection hx with hx; injection hx with _ hx; exact hx.symm
    · rw [upd_ne _ _ e] at hx; exact r.zero _ _ _ hx⟩, ⟨Fr.alloc _ w x hcalm, fun _ h => h, fun _ h => .inl h, fun b hx => ?_, upd_some hn⟩⟩
  · by_cases e : id = n
    · subst e; rw [upd_eq] at hx; injection hx with hx; subst hx; exact hb
    · rw [upd_ne _ _ e] at hx
      refine (r.live id b hx).keep (Ext.alloc r x) (fun _ h => h) (upd_some hn) (fun b o hi => heap_alloc_lt w x (r.dom id b o hi)) (fun _ _ _ _ h => h)
  · by_cases e : id = n
    · subst e
      rw [upd_eq] at hi; injection hi with hi; injection hi with hi _; subst hi
      have e' : id' ≠ id := Ne.symm hne
      rw [upd_ne _ _ e'] at hi'
      have := r.dom _ _ _ hi'
      omega
    · rw [upd_ne _ _ e] at hi hx
      by_cases e' : id' = n
      · subst e'
        rw [upd_eq] at hi'; injection hi' with hi'; injection hi' with hi' _; subst hi'
        have := r.dom _ _ _ hi
        omega
      · rw [upd_ne _ _ e'] at hi' hx'
        exact r.inj id id' b b' i o i' o' hx hx' hi hi' hne
  · by_cases e : id = n
    · subst e; rw [upd_eq] at hx; injection hx with hx; injection hx with hx _; subst hx; simp
    · rw [upd_ne _ _ e] at hx; have := r.dom _ _ _ hx; simp; omega
  · obtain ⟨id, blk', o, h1, h2, h3⟩ := hx
    by_cases e : id = n
    · subst e; rw [upd_eq] at h3; injection h3 with h3; injection h3 with h3 _; subst h3; exact .inr (Nat.le_refl _)
    · rw [upd_ne _ _ e] at h1 h3
      exact .inl ⟨id, blk', o, h1, h2, h3⟩

/-- A world in which one block of ours has turned. -/
structure Turned (w w' : World) (b : Nat) : Prop where
  os : w'.os = w.os
  tape : w'.tape = w.tape
  output : w'.output = w.output
  size : w'.heap.size = w.heap.size
  other : ∀ k, k ≠ b → w'.heap[k]? = w.heap[k]?
  row : ∀ arr ty fz, w.heap[b]? = some (.cells arr ty fz) → ∃ (arr' : Array Value) (fz' : Nat × Nat), w'.heap[b]? = some (.cells arr' ty fz') ∧ arr'.size = arr.size
  froz : ∀ x, w'.frozen? x = w.frozen? x

theorem Turned.fr {w w' : World} {b : Nat} (t : Turned w w' b) {o : Nat → Prop} (ho : o b) : Fr o w w' :=
  ⟨t.os, t.tape, t.output, by rw [t.size]; exact Nat.le_refl _, fun k _ hn => t.other k (fun e => hn (e ▸ ho)), fun k arr ty fz hx => by
    by_cases e : k = b
    · subst e; exact t.row arr ty fz hx
    · exact ⟨arr, fz, by rw [t.other k e]; exact hx, rfl⟩, fun x _ => t.froz x⟩

/-- A block of ours that is written. -/
theorem RelH.put (r : RelH ρ S h w) {w' : World} {id b o : Nat} {old blk : Blk} (h1 : h id = some old) (h2 : old.ro = false) (h3 : ρ id = some (b, o)) (t : Turned w w' b)
    (hb : Ext S w w' → RelB ρ S w' id blk) :
    RelH ρ S (upd h id (some blk)) w' ∧ Adv ρ S h w ρ S (upd h id (some blk)) w' := by
  have hf : Fr (own ρ h) w w' := t.fr (own_of h1 h2 h3)
  have he := r.ext hf
  refine ⟨⟨fun id' b' hx => ?_, fun i j bi bj x y x' y' hx hx' hi hi' hne => ?_, fun b hs => by rw [t.size]; exact r.bound b hs, fun i x y hx => by rw [t.size]; exact r.dom _ _ _ hx, r.zero⟩,
    ⟨hf, fun _ h => h, fun _ h => .inl h, fun k hk => ?_, fun _ _ h => h⟩⟩
  · by_cases e : id' = id
    · subst e; rw [upd_eq] at hx; injection hx with hx; subst hx; exact hb he
    · rw [upd_ne _ _ e] at hx
      refine (r.live id' b' hx).keep he (fun _ h => h) (fun _ _ h => h) (fun k o' hk => t.other k ?_) (fun _ _ _ _ h => h)
      exact r.inj id' id b' old k o' b o hx h1 hk h3 e
  · by_cases e : i = id
    · subst e
      have e' : j ≠ i := Ne.symm hne
      rw [upd_ne _ _ e'] at hx'
      exact r.inj i j old bj x y x' y' h1 hx' hi hi' hne
    · rw [upd_ne _ _ e] at hx
      by_cases e' : j = id
      · subst e'; exact r.inj i j bi old x y x' y' hx h1 hi hi' hne
      · rw [upd_ne _ _ e'] at hx'; exact r.inj i j bi bj x y x' y' hx hx' hi hi' hne
  · obtain ⟨i, bi, y, e1, e2, e3⟩ := hk
    by_cases e : i = id
    · subst e; exact .inl ⟨i, old, y, h1, h2, e3⟩
    · rw [upd_ne _ _ e] at e1; exact .inl ⟨i, bi, y, e1, e2, e3⟩

/-- A block is dropped: nobody will look at it any more. -/
theorem RelH.drop (r : RelH ρ S h w) (id : Nat) : RelH ρ S (upd h id none) w ∧ Adv ρ S h w ρ S (upd h id none) w := by
  have key : ∀ i b, upd h id none i = some b → h i = some b := fun i b hx => by
    by_cases e : i = id
    · subst e; rw [upd_eq] at hx; cases hx
    · rw [upd_ne _ _ e] at hx; exact hx
  exact ⟨⟨fun i b hx => r.live i b (key i b hx), fun i j bi bj x y x' y' hx hx' => r.inj i j bi bj x y x' y' (key _ _ hx) (key _ _ hx'), r.bound, r.dom, r.zero⟩,
    ⟨.refl _ _, fun _ h => h, fun _ h => .inl h, fun b ⟨i, bi, y, e1, e2, e3⟩ => .inl ⟨i, bi, y, key _ _ e1, e2, e3⟩, fun _ _ h => h⟩⟩

/-- A block of ours goes on under another name, which begins elsewhere in it, and may be written. -/
theorem RelH.move (r : RelH ρ S h w) {w' : World} {id n b o o' : Nat} {old blk : Blk} (h1 : h id = some old) (h2 : old.ro = false) (h3 : ρ id = some (b, o)) (hn : ρ n = none) (t : Turned w w' b) (ho' : o' = 0)
    (hb : Ext S w w' → RelB (upd ρ n (some (b, o'))) S w' n blk) :
    RelH (upd ρ n (some (b, o'))) S (upd (upd h id none) n (some blk)) w' ∧ Adv ρ S h w (upd ρ n (some (b, o'))) S (upd (upd h id none) n (some blk)) w' := by
  have hf : Fr (own ρ h) w w' := t.fr (own_of h1 h2 h3)
  have he := r.ext hf
  have hne : id ≠ n := fun e => by subst e; rw [hn] at h3; cases h3
  have key : ∀ i b, i ≠ n → upd (upd h id none) n (some blk) i = some b → h i = some b ∧ i ≠ id := fun i b e hx => by
    rw [upd_ne _ _ e] at hx
    by_cases e' : i = id
    · subst e'; rw [upd_eq] at hx; cases hx
    · rw [upd_ne _ _ e'] at hx; exact ⟨hx, e'⟩
  refine ⟨⟨fun i bi hx => ?_, fun i j bi bj x y x' y' hx hx' hi hi' hij => ?_, fun b hs => by rw [t.size]; exact r.bound b hs, fun i x y hx => ?_, fun i x y hx => by
    by_cases e : i = n
    · subst e; rw [upd_eq] at hx; injection hx with hx; injection hx with _ hx; rw [← hx]; exact ho'
    · rw [upd_ne _ _ e] at hx; exact r.zero _ _ _ hx⟩,
    ⟨hf, fun _ h => h, fun _ h => .inl h, fun k hk => ?_, upd_some hn⟩⟩
  · by_cases e : i = n
    · subst e; rw [upd_eq] at hx; injection hx with hx; subst hx; exact hb he
    · obtain ⟨hx, e'⟩ := key i bi e hx
      refine (r.live i bi hx).keep he (fun _ h => h) (upd_some hn) (fun k o' hk => t.other k ?_) (fun _ _ _ _ h => h)
      exact r.inj i id bi old k o' b o hx h1 hk h3 e'
  · by_cases e : i = n
    · subst e
      obtain ⟨hy', e'⟩ := key j bj (Ne.symm hij) hx'
      rw [upd_eq] at hi; injection hi with hi; injection hi with hi _; subst hi
      rw [upd_ne _ _ (Ne.symm hij)] at hi'
      exact (r.inj j id bj old x' y' b o hy' h1 hi' h3 e').symm
    · obtain ⟨hy, e1⟩ := key i bi e hx
      rw [upd_ne _ _ e] at hi
      by_cases e' : j = n
      · subst e'
        rw [upd_eq] at hi'; injection hi' with hi'; injection hi' with hi' _; subst hi'
        exact r.inj i id bi old x y b o hy h1 hi h3 e1
      · obtain ⟨hy', e2⟩ := key j bj e' hx'
        rw [upd_ne _ _ e'] at hi'
        exact r.inj i j bi bj x y x' y' hy hy' hi hi' hij
  · by_cases e : i = n
    · subst e; rw [upd_eq] at hx; injection hx with hx; injection hx with hx _; subst hx; rw [t.size]; exact r.dom _ _ _ h3
    · rw [upd_ne _ _ e] at hx; rw [t.size]; exact r.dom _ _ _ hx
  · obtain ⟨i, bi, y, e1, e2, e3⟩ := hk
    by_cases e : i = n
    · subst e; rw [upd_eq] at e3; injection e3 with e3; injection e3 with e3 _; subst e3; exact .inl (own_of h1 h2 h3)
    · obtain ⟨e1, _⟩ := key i bi e e1
      rw [upd_ne _ _ e] at e3
      exact .inl ⟨i, bi, y, e1, e2, e3⟩

/-- A block of ours is let go to those that stay as they are. -/
def frz (h : AHeap) (id : Nat) : AHeap := match h id with
  | some (.cells cs _) => upd h id (some (.cells cs true))
  | _ => h

theorem RelH.frz (r : RelH ρ S h w) (id : Nat) : ∃ S', RelH ρ S' (frz h id) w ∧ Adv ρ S h w ρ S' (Fw.frz h id) w ∧ (∀ b o cs ro, h id = some (.cells cs ro) → ρ id = some (b, o) → S' b) := by
  unfold Fw.frz
  cases hx : h id with
  | none => exact ⟨S, r, .refl _ _ _ _, fun _ _ _ _ h => by cases h⟩
  | some blk =>
    cases blk with
    | map es c => exact ⟨S, r, .refl _ _ _ _, fun _ _ _ _ h => by cases h⟩
    | cells cs ro =>
      simp only
      obtain ⟨b, o, arr, ty, fz, h1, h2, hl, h3, h4, h5⟩ := r.live id _ hx
      have he : Ext S w w := .refl _ _
      cases ro with
      | true =>
        have e : upd h id (some (.cells cs true)) = h := by
          funext i
          by_cases e : i = id
          · subst e; rw [upd_eq, hx]
          · rw [upd_ne _ _ e]
        rw [e]
        exact ⟨S, r, .refl _ _ _ _, fun b' o' _ _ _ hb => by rw [h1] at hb; injection hb with hb; injection hb with hb _; subst hb; exact h5⟩
      | false =>
        refine ⟨fun k => S k ∨ k = b, ⟨fun i bi hi => ?_, fun i j bi bj x y x' y' hx1 hx' hi hi' hne => ?_, fun k hk => ?_, r.dom, r.zero⟩, ⟨.refl _ _, fun _ h => .inl h, fun k hk => ?_, fun k hk => ?_, fun _ _ h => h⟩, fun b' o' _ _ _ hb => ?_⟩
        · by_cases e : i = id
          · subst e; rw [upd_eq] at hi; injection hi with hi; subst hi
            refine ⟨b, o, arr, ty, fz, h1, h2, hl, fun j c hc => ?_, h4, .inr rfl⟩
            obtain ⟨e1, v, e2, e3⟩ := h3 j c hc
            exact ⟨e1, v, e2, e3.ext he (fun _ h => .inl h) (fun _ _ h => h)⟩
          · rw [upd_ne _ _ e] at hi
            refine (r.live i bi hi).keep he (fun _ h => .inl h) (fun _ _ h => h) (fun _ _ _ => rfl) (fun k y hk hf hs => ?_)
            rcases hs with hs | hs
            · exact hs
            · subst hs; exact absurd rfl (r.inj i id bi _ k y k o hi hx hk h1 e)
        · have key : ∀ i b, upd h id (some (.cells cs true)) i = some b → ∃ b', h i = some b' := fun i b hx1 => by
            by_cases e : i = id
            · subst e; exact ⟨_, hx⟩
            · rw [upd_ne _ _ e] at hx1; exact ⟨_, hx1⟩
          obtain ⟨_, k1⟩ := key _ _ hx1
          obtain ⟨_, k2⟩ := key _ _ hx'
          exact r.inj i j _ _ x y x' y' k1 k2 hi hi' hne
        · rcases hk with hk | hk
          · exact r.bound k hk
          · subst hk; exact r.dom _ _ _ h1
        · rcases hk with hk | hk
          · exact .inl hk
          · subst hk; exact .inr (.inl (own_of hx rfl h1))
        · obtain ⟨i, bi, y, e1, e2, e3⟩ := hk
          by_cases e : i = id
          · subst e; rw [upd_eq] at e1; injection e1 with e1; subst e1; simp [Blk.ro] at e2
          · rw [upd_ne _ _ e] at e1; exact .inl ⟨i, bi, y, e1, e2, e3⟩
        · rw [h1] at hb; injection hb with hb; injection hb with hb _; subst hb; exact .inr rfl
end

/-! ### Rows of cells -/
theorem addr_add (b o n : Nat) : (⟨b, o, none⟩ : Addr).add n = ⟨b, o + n, none⟩ := by unfold Addr.add; split <;> simp_all

theorem cell_of_heap {w : World} {b : Nat} {arr : Array Value} {ty : TypeId} {fz : Nat × Nat} (h : w.heap[b]? = some (.cells arr ty fz)) (o : Nat) : w.cell? ⟨b, o, none⟩ = arr[o]? := by
  simp [World.cell?, h]

def setList (arr : Array Value) (o : Nat) : List Value → Array Value
  | [] => arr
  | v :: r => setList (arr.setIfInBounds o v) (o + 1) r

theorem setList_size (arr : Array Value) (o : Nat) (vs : List Value) : (setList arr o vs).size = arr.size := by
  induction vs generalizing arr o with
  | nil => rfl
  | cons v r ih => simp [setList, ih]

theorem setList_get (arr : Array Value) (o : Nat) (vs : List Value) (i : Nat) : (setList arr o vs)[i]? = if o ≤ i ∧ i < o + vs.length ∧ i < arr.size then vs[i - o]? else arr[i]? := by
  induction vs generalizing arr o with
  | nil => rw [if_neg (by simp; omega)]; rfl
  | cons v r ih =>
    simp only [setList, ih, List.length_cons, Array.size_setIfInBounds]
    by_cases h1 : o + 1 ≤ i ∧ i < o + 1 + r.length ∧ i < arr.size
    · rw [if_pos h1, if_pos (by omega)]
      rw [show i - o = (i - (o + 1)) + 1 by omega, List.getElem?_cons_succ]
    · rw [if_neg h1]
      by_cases h2 : i = o
      · subst h2
        by_cases h3 : i < arr.size
        · rw [if_pos (by omega)]; simp [h3]
        · rw [if_neg (by omega)]; rw [Array.getElem?_eq_none (by simp; omega), Array.getElem?_eq_none (by omega)]
      · rw [if_neg (by omega), Array.getElem?_setIfInBounds_ne (Ne.symm h2)]

theorem setCells_heap (w : World) (b o : Nat) (vs : List Value) {arr : Array Value} {ty : TypeId} {fz : Nat × Nat} (h : w.heap[b]? = some (.cells arr ty fz)) :
    (w.setCells b o vs).heap[b]? = some (.cells (setList arr o vs) ty fz) := by
  induction vs generalizing w o arr with
  | nil => exact h
  | cons v r ih =>
    refine ih _ _ ?_
    simp [World.setCell, Array.getElem?_modify, h]

theorem setCells_turned (w : World) (b o : Nat) (vs : List Value) : Turned w (w.setCells b o vs) b := by
  induction vs generalizing w o with
  | nil => exact ⟨rfl, rfl, rfl, rfl, fun _ _ => rfl, fun arr ty fz h => ⟨arr, fz, h, rfl⟩, fun _ => rfl⟩
  | cons v r ih =>
    have := ih (w.setCell ⟨b, o, none⟩ v) (o + 1)
    refine ⟨this.os, this.tape, this.output, this.size.trans (by simp), fun k hk => ?_, fun arr ty fz h => ?_, fun x => (this.froz x).trans (World.frozen?_setCell _ _ _ _)⟩
    · refine (this.other k hk).trans ?_
      simp only [World.setCell, Array.getElem?_modify]
      rw [if_neg (Ne.symm hk)]
    · exact ⟨_, fz, setCells_heap w b o (v :: r) h, setList_size _ _ _⟩

end Go.Fw
