/- Calls that are shown values without names of blocks: what they make is named anew, wherever they are called. -/
import Derived.Test.YtepdflohpondbaaFwT2
import Derived.Test.YtepdflohpondbaaFwX
set_option linter.unusedSimpArgs false
set_option linter.unusedVariables false
namespace Go.Fw.Sy

/-! ### Other names -/
mutual
def ren (p : Nat → Nat) : AV → AV
  | .ptr id off => .ptr (p id) off
  | .sl id off len cap z => .sl (p id) off len cap z
  | .map id => .map (p id)
  | .agg cs => .agg (renL p cs)
  | .tup cs => .tup (renL p cs)
  | .func f as bs => .func f (renL p as) (renL p bs)
  | .iface t a => .iface t (ren p a)
  | a => a
def renL (p : Nat → Nat) : List AV → List AV
  | [] => []
  | a :: r => ren p a :: renL p r
end

theorem renL_map (p : Nat → Nat) : ∀ l, renL p l = l.map (ren p)
  | [] => rfl
  | a :: r => by simp only [renL, List.map_cons, renL_map p r]

def renB (p : Nat → Nat) : Blk → Blk
  | .cells cs ro => .cells (renL p cs) ro
  | .map es c => .map (es.map fun e => (ren p e.1, ren p e.2.1, e.2.2)) c

theorem ren_isCell (p : Nat → Nat) (a : AV) : (ren p a).isCell = a.isCell := by
  cases a <;> simp [ren, AV.isCell]

theorem mem_idsList {id : Nat} : ∀ {l : List AV}, id ∈ idsList l ↔ ∃ a ∈ l, id ∈ a.ids
  | [] => by simp [idsList]
  | a :: r => by simp [idsList, mem_idsList (l := r)]

theorem idsList_get {cs : List AV} {i : Nat} {c : AV} (h : cs[i]? = some c) {id : Nat} (hi : id ∈ c.ids) : id ∈ idsList cs :=
  mem_idsList.2 ⟨c, List.mem_of_getElem? h, hi⟩

theorem map_self {α : Type} {f : α → α} {l : List α} (h : ∀ (i : Nat) (c : α), l[i]? = some c → f c = c) : l.map f = l := by
  refine List.ext_getElem? fun i => ?_
  rw [List.getElem?_map]
  cases hx : l[i]? with
  | none => rfl
  | some c => simp [h i c hx]

section
variable {ρ ρ' : Nat → Option (Nat × Nat)} {S S' : Nat → Prop} {w w' : World} {p : Nat → Nat}

theorem pvr_ren {a : AV} {v : Value} (h : PVR S w a v) : ren p a = a := by
  induction h with
  | agg cs xs h1 h2 _ ih =>
    simp only [ren, renL_map]
    rw [map_self fun i c hc => ?_]
    have : i < xs.length := by rw [← h1]; exact (List.getElem?_eq_some_iff.1 hc).1
    exact ih i c _ hc (List.getElem?_eq_getElem this)
  | tup cs xs h1 _ ih =>
    simp only [ren, renL_map]
    rw [map_self fun i c hc => ?_]
    have : i < xs.length := by rw [← h1]; exact (List.getElem?_eq_some_iff.1 hc).1
    exact ih i c _ hc (List.getElem?_eq_getElem this)
  | func fn as bs xs ys h1 h2 _ _ ih1 ih2 =>
    simp only [ren, renL_map]
    rw [map_self fun i c hc => ?_, map_self fun i c hc => ?_]
    · have : i < ys.length := by rw [← h2]; exact (List.getElem?_eq_some_iff.1 hc).1
      exact ih2 i c _ hc (List.getElem?_eq_getElem this)
    · have : i < xs.length := by rw [← h1]; exact (List.getElem?_eq_some_iff.1 hc).1
      exact ih1 i c _ hc (List.getElem?_eq_getElem this)
  | iface t a v _ ih => simp only [ren, ih]
  | _ => rfl

/-- Under other names. -/
theorem avr_ren {a : AV} {v : Value} (h : AVR ρ S w a v) (hp : ∀ id ∈ a.ids, ρ' (p id) = ρ id) : AVR ρ' S w (ren p a) v := by
  induction h with
  | pv a v h => rw [pvr_ren h]; exact .pv _ _ h
  | agg cs xs h1 h2 _ ih =>
    simp only [ren, renL_map]
    refine .agg _ xs (by simpa using h1) (fun i c hc => ?_) fun i c x hc hx => ?_
    · rw [List.getElem?_map, Option.map_eq_some_iff] at hc
      obtain ⟨d, hd, rfl⟩ := hc
      rw [ren_isCell]; exact h2 i d hd
    · rw [List.getElem?_map, Option.map_eq_some_iff] at hc
      obtain ⟨d, hd, rfl⟩ := hc
      exact ih i d x hd hx fun id hid => hp id (idsList_get hd hid)
  | tup cs xs h1 _ ih =>
    simp only [ren, renL_map]
    refine .tup _ xs (by simpa using h1) fun i c x hc hx => ?_
    rw [List.getElem?_map, Option.map_eq_some_iff] at hc
    obtain ⟨d, hd, rfl⟩ := hc
    exact ih i d x hd hx fun id hid => hp id (idsList_get hd hid)
  | ptr id off b o h => exact .ptr _ off b o (by rw [hp id (by simp [AV.ids])]; exact h)
  | sl id off len cap z b o c arr ty fz h1 h2 h3 h4 h5 h6 => exact .sl _ off len cap z b o c arr ty fz (by rw [hp id (by simp [AV.ids])]; exact h1) h2 h3 h4 h5 h6
  | func fn as bs xs ys h1 h2 _ _ ih1 ih2 =>
    simp only [ren, renL_map]
    refine .func fn _ _ xs ys (by simpa using h1) (by simpa using h2) (fun i c x hc hx => ?_) fun i c x hc hx => ?_
    · rw [List.getElem?_map, Option.map_eq_some_iff] at hc
      obtain ⟨d, hd, rfl⟩ := hc
      exact ih1 i d x hd hx fun id hid => hp id (by simp only [AV.ids, List.mem_append]; exact .inl (idsList_get hd hid))
    · rw [List.getElem?_map, Option.map_eq_some_iff] at hc
      obtain ⟨d, hd, rfl⟩ := hc
      exact ih2 i d x hd hx fun id hid => hp id (by simp only [AV.ids, List.mem_append]; exact .inr (idsList_get hd hid))
  | map id b h => exact .map _ b (by rw [hp id (by simp [AV.ids])]; exact h)
  | iface t a v _ ih => exact .iface t _ v (ih fun id hid => hp id (by simpa [AV.ids] using hid))

/-- Without names: whatever they mean. -/
theorem avr_pvr {a : AV} {v : Value} (h : AVR ρ S w a v) (hp : a.ids = []) : PVR S w a v := by
  induction h with
  | pv a v h => exact h
  | agg cs xs h1 h2 _ ih =>
    refine .agg _ xs h1 h2 fun i c x hc hx => ih i c x hc hx ?_
    rw [List.eq_nil_iff_forall_not_mem]; intro id hid
    have := idsList_get hc hid
    simp only [AV.ids] at hp; rw [hp] at this; cases this
  | tup cs xs h1 _ ih =>
    refine .tup _ xs h1 fun i c x hc hx => ih i c x hc hx ?_
    rw [List.eq_nil_iff_forall_not_mem]; intro id hid
    have := idsList_get hc hid
    simp only [AV.ids] at hp; rw [hp] at this; cases this
  | ptr id off b o h => simp [AV.ids] at hp
  | sl => simp [AV.ids] at hp
  | func fn as bs xs ys h1 h2 _ _ ih1 ih2 =>
    simp only [AV.ids, List.append_eq_nil_iff] at hp
    refine .func fn _ _ xs ys h1 h2 (fun i c x hc hx => ih1 i c x hc hx ?_) fun i c x hc hx => ih2 i c x hc hx ?_
    · rw [List.eq_nil_iff_forall_not_mem]; intro id hid
      have := idsList_get hc hid
      rw [hp.1] at this; cases this
    · rw [List.eq_nil_iff_forall_not_mem]; intro id hid
      have := idsList_get hc hid
      rw [hp.2] at this; cases this
  | map id b h => simp [AV.ids] at hp
  | iface t a v _ ih => exact .iface t _ v (ih (by simpa [AV.ids] using hp))

/-! ### Values that hold no view -/
mutual
def flat : AV → Bool
  | .vptr _ => false
  | .vsl _ es _ => es.isEmpty
  | .agg cs => flatL cs
  | .tup cs => flatL cs
  | .func _ as bs => flatL as && flatL bs
  | .iface _ a => flat a
  | _ => true
def flatL : List AV → Bool
  | [] => true
  | a :: r => flat a && flatL r
end

theorem flatL_get : ∀ {l : List AV} {i : Nat} {c : AV}, flatL l = true → l[i]? = some c → flat c = true
  | [], i, c, _, h => by simp at h
  | a :: r, i, c, hf, h => by
    simp only [flatL, Bool.and_eq_true] at hf
    cases i with
    | zero => simp at h; subst h; exact hf.1
    | succ i => exact flatL_get hf.2 (by simpa using h)

theorem pvr_flat {a : AV} {v : Value} (h : PVR S w a v) (hf : flat a = true) : PVR S' w' a v := by
  induction h with
  | undef => exact .undef
  | bool b => exact .bool b
  | int k n => exact .int k n
  | str s => exact .str s
  | agg cs xs h1 h2 _ ih => exact .agg cs xs h1 h2 fun i c x hc hx => ih i c x hc hx (flatL_get (by simpa [flat] using hf) hc)
  | tup cs xs h1 _ ih => exact .tup cs xs h1 fun i c x hc hx => ih i c x hc hx (flatL_get (by simpa [flat] using hf) hc)
  | nilptr => exact .nilptr
  | vptr => simp [flat] at hf
  | vsl z es cap a n c b o f hn hz h1 h2 h3 h4 h5 _ ih =>
    simp only [flat, List.isEmpty_iff] at hf
    subst hf
    exact .vsl z [] cap a n c b o f hn hz h1 h2 (fun h => absurd rfl h) h4 (fun i e j x h => by simp at h) (fun i e j x h => by simp at h)
  | nilfunc => exact .nilfunc
  | func fn as bs xs ys h1 h2 _ _ ih1 ih2 =>
    simp only [flat, Bool.and_eq_true] at hf
    exact .func fn as bs xs ys h1 h2 (fun i c x hc hx => ih1 i c x hc hx (flatL_get hf.1 hc)) fun i c x hc hx => ih2 i c x hc hx (flatL_get hf.2 hc)
  | nilmap => exact .nilmap
  | niliface => exact .niliface
  | iface t a v _ ih => exact .iface t a v (ih (by simpa [flat] using hf))

theorem avr_flat {a : AV} {v : Value} (h : AVR ρ S w a v) (hf : flat a = true) : AVR ρ S' w a v := by
  induction h with
  | pv a v h => exact .pv _ _ (pvr_flat h hf)
  | agg cs xs h1 h2 _ ih => exact .agg cs xs h1 h2 fun i c x hc hx => ih i c x hc hx (flatL_get (by simpa [flat] using hf) hc)
  | tup cs xs h1 _ ih => exact .tup cs xs h1 fun i c x hc hx => ih i c x hc hx (flatL_get (by simpa [flat] using hf) hc)
  | ptr id off b o h => exact .ptr id off b o h
  | sl id off len cap z b o c arr ty fz h1 h2 h3 h4 h5 h6 => exact .sl id off len cap z b o c arr ty fz h1 h2 h3 h4 h5 h6
  | func fn as bs xs ys h1 h2 _ _ ih1 ih2 =>
    simp only [flat, Bool.and_eq_true] at hf
    exact .func fn as bs xs ys h1 h2 (fun i c x hc hx => ih1 i c x hc hx (flatL_get hf.1 hc)) fun i c x hc hx => ih2 i c x hc hx (flatL_get hf.2 hc)
  | map id b h => exact .map id b h
  | iface t a v _ ih => exact .iface t a v (ih (by simpa [flat] using hf))

def flatB : Blk → Bool
  | .cells cs _ => flatL cs
  | .map es _ => es.all fun e => flat e.1 && flat e.2.1

/-- A block under other names. -/
theorem relB_ren {id : Nat} {blk : Blk} {j : Nat} (h : RelB ρ S w id blk) (hj : ρ' j = ρ id) (hp : ∀ i ∈ blkIds (some blk), ρ' (p i) = ρ i) (hro : blk.ro = false)
    (hS : ∀ b, ρ id = some (b, 0) ∨ (∃ o, ρ id = some (b, o)) → ¬ S b → ¬ S' b) (hv : ∀ a v, AVR ρ' S w a v → (flatB blk = true → flat a = true) → AVR ρ' S' w a v)
    (hfl : ∀ a, flat a = true → flat (ren p a) = true) : RelB ρ' S' w j (renB p blk) := by
  cases blk with
  | cells cs ro =>
    obtain ⟨b, o, arr, ty, fz, e1, e2, e3, e4, e5, e6⟩ := h
    simp only [Blk.ro] at hro; subst hro
    refine ⟨b, o, arr, ty, fz, by rw [hj]; exact e1, e2, by simpa [renB, renL_map] using e3, fun i c hc => ?_, e5, ?_⟩
    · simp only [renL_map, List.getElem?_map, Option.map_eq_some_iff] at hc
      obtain ⟨d, hd, rfl⟩ := hc
      obtain ⟨g1, v, g2, g3⟩ := e4 i d hd
      refine ⟨by rw [ren_isCell]; exact g1, v, g2, hv _ _ (avr_ren g3 fun x hx => hp x (idsList_get hd hx)) fun hf => hfl _ (flatL_get hf hd)⟩
    · exact hS b (.inr ⟨o, e1⟩) e6
  | map es c =>
    obtain ⟨b, ents, e1, e2, e3, e4, e5⟩ := h
    refine ⟨b, ents, by rw [hj]; exact e1, e2, by simpa [renB] using e3, fun i k x n hx => ?_, hS b (.inl e1) e5⟩
    simp only [List.getElem?_map, Option.map_eq_some_iff, Prod.mk.injEq] at hx
    obtain ⟨⟨k0, x0, n0⟩, hd, rfl, rfl, rfl⟩ := hx
    obtain ⟨m, g1, g2, g3, g4⟩ := e4 i k0 x0 n0 hd
    have hmem : (k0, x0, n0) ∈ es := List.mem_of_getElem? hd
    have hfe : flatB (.map es c) = true → flat k0 = true ∧ flat x0 = true := fun hf => by
      simp only [flatB, List.all_eq_true, Bool.and_eq_true] at hf
      exact hf _ hmem
    refine ⟨m, g1, hv _ _ (avr_ren g2 fun i hi => hp i ?_) fun hf => hfl _ (hfe hf).1, hv _ _ (avr_ren g3 fun i hi => hp i ?_) fun hf => hfl _ (hfe hf).2, g4⟩
    · simp only [blkIds, List.mem_flatMap, List.mem_append]
      exact ⟨_, hmem, .inl hi⟩
    · simp only [blkIds, List.mem_flatMap, List.mem_append]
      exact ⟨_, hmem, .inr hi⟩
end

mutual
theorem flat_ren (p : Nat → Nat) : ∀ a, flat a = true → flat (ren p a) = true
  | .agg cs, h => by simp only [ren, flat] at h ⊢; exact flatL_ren p cs h
  | .tup cs, h => by simp only [ren, flat] at h ⊢; exact flatL_ren p cs h
  | .func f as bs, h => by simp only [ren, flat, Bool.and_eq_true] at h ⊢; exact ⟨flatL_ren p as h.1, flatL_ren p bs h.2⟩
  | .iface t a, h => by simp only [ren, flat] at h ⊢; exact flat_ren p a h
  | .undef, h => h
  | .bool _, h => h
  | .int _ _, h => h
  | .str _, h => h
  | .nilptr, h => h
  | .ptr _ _, h => rfl
  | .vptr _, h => h
  | .sl .., h => rfl
  | .vsl .., h => h
  | .nilfunc, h => h
  | .nilmap, h => h
  | .map _, h => rfl
  | .niliface, h => h
theorem flatL_ren (p : Nat → Nat) : ∀ l, flatL l = true → flatL (renL p l) = true
  | [], h => h
  | a :: r, h => by
    simp only [renL, flatL, Bool.and_eq_true] at h ⊢
    exact ⟨flat_ren p a h.1, flatL_ren p r h.2⟩
end

/-! ### What a call made, set down beside what lies there -/
section
variable {ρ ρ0 : Nat → Option (Nat × Nat)} {S S0 S1 : Nat → Prop} {h h0 : AHeap} {w w' : World} {n N : Nat} {ids : List Nat} {r : AV} {v : Value}

def at0 (ids : List Nat) (i : Nat) : Nat := ids.getD i 0
def inR (n k id : Nat) : Bool := Nat.ble n id && Nat.blt id (n + k)
def ρN (ρ ρ0 : Nat → Option (Nat × Nat)) (n : Nat) (ids : List Nat) : Nat → Option (Nat × Nat) := fun id => bif inR n ids.length id then ρ0 (at0 ids (id - n)) else ρ id
def hN (h h0 : AHeap) (n : Nat) (ids : List Nat) : AHeap := fun id => bif inR n ids.length id then (h0 (at0 ids (id - n))).map (renB fun i => n + ids.idxOf i) else h id

theorem inR_iff {n k id : Nat} : inR n k id = true ↔ n ≤ id ∧ id < n + k := by simp [inR]

theorem set_down (rh : RelH ρ S h w) (hfr : ∀ id, n ≤ id → id < N → ρ id = none) (hN' : n + ids.length ≤ N) (hS0 : ∀ b, S b → S0 b) (hS0' : ∀ b, S0 b → S b ∨ own ρ h b)
    (rv : AVR ρ0 S1 w' r v) (r1 : RelH ρ0 S1 h0 w') (d1 : Adv noR S0 noA w ρ0 S1 h0 w') (hnd : ids.Nodup) (hr : ∀ id ∈ r.ids, id ∈ ids)
    (hl : ∀ id ∈ ids, ∃ blk, h0 id = some blk ∧ blk.ro = false ∧ ∀ j ∈ blkIds (some blk), j ∈ ids)
    (hflat : (∀ b, S0 b → S b) ∨ (flat r = true ∧ ∀ id ∈ ids, ∀ blk, h0 id = some blk → flatB blk = true)) :
    ∃ S2, AVR (ρN ρ ρ0 n ids) S2 w' (ren (fun i => n + ids.idxOf i) r) v ∧ RelH (ρN ρ ρ0 n ids) S2 (hN h h0 n ids) w' ∧ Adv ρ S h w (ρN ρ ρ0 n ids) S2 (hN h h0 n ids) w' ∧
      ∀ id, id < n ∨ n + ids.length ≤ id → ρN ρ ρ0 n ids id = ρ id := by
  have hno : ∀ b, ¬ own noR noA b := fun b ⟨i, bi, o, e, _⟩ => by cases e
  have hf : Fr (own ρ h) w w' := d1.fr.mono fun b hb => absurd hb (hno b)
  have he := rh.ext hf
  have hkept : ∀ b, b < w.heap.size → w'.heap[b]? = w.heap[b]? := fun b hb => d1.fr.kept b hb (hno b)
  have hownlt : ∀ b, own ρ h b → b < w.heap.size := fun b ⟨i, bi, o, _, _, e⟩ => rh.dom i b o e
  have hout : ∀ id, ¬ (n ≤ id ∧ id < n + ids.length) → ρN ρ ρ0 n ids id = ρ id := fun id hid => by
    have : inR n ids.length id = false := by rw [Bool.eq_false_iff]; exact fun h => hid (inR_iff.1 h)
    simp [ρN, this]
  have hin : ∀ id, n ≤ id → id < n + ids.length → ρN ρ ρ0 n ids id = ρ0 (at0 ids (id - n)) := fun id h1 h2 => by
    have : inR n ids.length id = true := inR_iff.2 ⟨h1, h2⟩
    simp [ρN, this]
  have hat : ∀ i, i < ids.length → at0 ids i ∈ ids := fun i hi => by
    simp only [at0, List.getD_eq_getElem?_getD, List.getElem?_eq_getElem hi, Option.getD_some]
    exact List.getElem_mem hi
  have hidx : ∀ id ∈ ids, ρN ρ ρ0 n ids (n + ids.idxOf id) = ρ0 id := fun id hid => by
    have hlt := List.idxOf_lt_length_iff.2 hid
    rw [hin _ (Nat.le_add_right _ _) (Nat.add_lt_add_left hlt n), Nat.add_sub_cancel_left]
    simp only [at0, List.getD_eq_getElem?_getD, List.getElem?_eq_getElem hlt, Option.getD_some, List.getElem_idxOf]
  have hρ : ∀ id x, ρ id = some x → ρN ρ ρ0 n ids id = some x := fun id x hx => by
    rw [hout id (fun hc => by rw [hfr id hc.1 (Nat.lt_of_lt_of_le hc.2 hN')] at hx; cases hx)]; exact hx
  have fresh : ∀ id ∈ ids, ∀ b o, ρ0 id = some (b, o) → w.heap.size ≤ b := fun id hid b o hb => by
    obtain ⟨blk, e1, e2, _⟩ := hl id hid
    rcases d1.owned b ⟨id, blk, o, e1, e2, hb⟩ with h | h
    · exact absurd h (hno b)
    · exact h
  let S2 : Nat → Prop := fun b => S1 b ∧ ¬ own ρ h b
  have hS2 : ∀ b, S b → S2 b := fun b hb => ⟨d1.up b (hS0 b hb), rh.apart hb⟩
  -- what holds no view, or views of what stays
  have key : ∀ (ρ' : Nat → Option (Nat × Nat)) a u, AVR ρ' S1 w' a u → ((∀ b, S0 b → S b) ∨ flat a = true) → AVR ρ' S2 w' a u := by
    intro ρ' a u hav hc
    rcases hc with hc | hc
    · refine hav.ext ⟨fun _ _ => rfl, fun b arr ty fz hb => ⟨arr, fz, hb, rfl⟩⟩ (fun b hb => ⟨hb, fun ho => ?_⟩) fun _ _ h => h
      rcases d1.down b hb with h1 | h1 | h1
      · exact rh.apart (hc b h1) ho
      · exact hno b h1
      · have := hownlt b ho; omega
    · exact avr_flat hav hc
  have hold : ∀ id blk, hN h h0 n ids id = some blk → (n ≤ id ∧ id < n + ids.length ∧ ∃ b0, h0 (at0 ids (id - n)) = some b0 ∧ blk = renB (fun i => n + ids.idxOf i) b0) ∨ (¬ (n ≤ id ∧ id < n + ids.length) ∧ h id = some blk) := by
    intro id blk hx
    unfold hN at hx
    by_cases hc : n ≤ id ∧ id < n + ids.length
    · rw [inR_iff.2 hc, cond_true, Option.map_eq_some_iff] at hx
      obtain ⟨b0, e1, e2⟩ := hx
      exact .inl ⟨hc.1, hc.2, b0, e1, e2.symm⟩
    · have : inR n ids.length id = false := by rw [Bool.eq_false_iff]; exact fun h => hc (inR_iff.1 h)
      rw [this, cond_false] at hx
      exact .inr ⟨hc, hx⟩
  have hro : ∀ b0 : Blk, (renB (fun i => n + ids.idxOf i) b0).ro = b0.ro := fun b0 => by cases b0 <;> rfl
  refine ⟨S2, key _ _ _ (avr_ren rv fun id hid => hidx id (hr id hid)) ?_, ⟨fun id blk hx => ?_, fun id id' blk blk' b o b' o' hx hx' e e' hne => ?_, fun b hb => r1.bound b hb.1, fun id b o hb => ?_, fun id b o hb => by
      by_cases hc : n ≤ id ∧ id < n + ids.length
      · rw [hin id hc.1 hc.2] at hb; exact r1.zero _ _ _ hb
      · rw [hout id hc] at hb; exact rh.zero _ _ _ hb⟩,
    ⟨hf, hS2, fun b hb => ?_, fun b hb => ?_, hρ⟩, fun id hid => hout id (by omega)⟩
  · exact hflat.imp (fun h => h) fun h => flat_ren _ _ h.1
  · rcases hold id blk hx with ⟨h1, h2, b0, h3, rfl⟩ | ⟨h1, h2⟩
    · have hm := hat (id - n) (by omega)
      obtain ⟨b1, e1, e2, e3⟩ := hl _ hm
      rw [h3] at e1; injection e1 with e1; subst e1
      refine relB_ren (r1.live _ _ h3) (hin id h1 h2) (fun i hi => hidx i (e3 i hi)) e2 (fun b _ hb hb' => hb hb'.1) (fun a u hav hc => key _ _ _ hav ?_) (flat_ren _)
      exact hflat.imp (fun h => h) fun h => hc (h.2 _ hm _ h3)
    · refine (rh.live id blk h2).keep he hS2 hρ (fun b o hb => hkept b (rh.dom _ _ _ hb)) (fun b o hb hro hS' => ?_)
      exact absurd ⟨id, blk, o, h2, hro, hb⟩ hS'.2
  · rcases hold id blk hx with ⟨h1, h2, b0, h3, rfl⟩ | ⟨h1, h2⟩ <;> rcases hold id' blk' hx' with ⟨h1', h2', b0', h3', rfl⟩ | ⟨h1', h2'⟩
    · rw [hin id h1 h2] at e
      rw [hin id' h1' h2'] at e'
      refine r1.inj _ _ _ _ _ _ _ _ h3 h3' e e' fun heq => hne ?_
      have q1 : id - n < ids.length := by omega
      have q2 : id' - n < ids.length := by omega
      simp only [at0, List.getD_eq_getElem?_getD, List.getElem?_eq_getElem q1, List.getElem?_eq_getElem q2, Option.getD_some] at heq
      have := (List.getElem_inj hnd).1 heq
      omega
    · rw [hin id h1 h2] at e
      rw [hout id' h1'] at e'
      have q1 := fresh _ (hat _ (by omega)) _ _ e
      have q2 := rh.dom _ _ _ e'
      omega
    · rw [hout id h1] at e
      rw [hin id' h1' h2'] at e'
      have q1 := fresh _ (hat _ (by omega)) _ _ e'
      have q2 := rh.dom _ _ _ e
      omega
    · rw [hout id h1] at e
      rw [hout id' h1'] at e'
      exact rh.inj _ _ _ _ _ _ _ _ h2 h2' e e' hne
  · by_cases hc : n ≤ id ∧ id < n + ids.length
    · rw [hin id hc.1 hc.2] at hb
      exact r1.dom _ _ _ hb
    · rw [hout id hc] at hb
      exact Nat.lt_of_lt_of_le (rh.dom _ _ _ hb) hf.size
  · rcases d1.down b hb.1 with h1 | h1 | h1
    · rcases hS0' b h1 with h2 | h2
      · exact .inl h2
      · exact absurd h2 hb.2
    · exact absurd h1 (hno b)
    · exact .inr (.inr h1)
  · obtain ⟨id, blk, o, h1, h2, h3⟩ := hb
    rcases hold id blk h1 with ⟨g1, g2, b0, g3, rfl⟩ | ⟨g1, g2⟩
    · rw [hin id g1 g2] at h3
      exact .inr (fresh _ (hat _ (by omega)) _ _ h3)
    · rw [hout id g1] at h3
      exact .inl ⟨id, blk, o, g2, h2, h3⟩
end
end Go.Fw.Sy
