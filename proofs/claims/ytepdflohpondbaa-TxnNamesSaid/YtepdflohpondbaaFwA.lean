/- The abstract values, how they stand for the machine's values in a world, and that this stands while the world goes on. -/
import Derived.Orders
import Derived.Laws.World
namespace Go.Fw

inductive AV where
  | undef
  | bool (b : Bool)
  | int (k : IntKind) (n : Int)
  | str (s : ByteArray)
  | agg (cs : List AV)
  | tup (vs : List AV)
  | nilptr
  | ptr (id off : Nat)
  | vptr (cs : List AV)
  | sl (id off len : Nat) (cap : Option Nat) (z : Nat)
  | vsl (z : Nat) (es : List (List AV)) (cap : Option Nat)
  | nilfunc
  | func (fn : Fn) (first captured : List AV)
  | nilmap
  | map (id : Nat)
  | niliface
  | iface (t : TypeId) (v : AV)
  deriving Inhabited

def AV.isCell : AV → Bool
  | .undef | .agg _ | .tup _ => false
  | _ => true

/-- Values without names of blocks of ours. S: the blocks that stay as they are. -/
inductive PVR (S : Nat → Prop) (w : World) : AV → Value → Prop
  | undef : PVR S w .undef Go.undef
  | bool (b : Bool) : PVR S w (.bool b) (.bool b)
  | int (k : IntKind) (n : Int) : PVR S w (.int k n) (.int k n)
  | str (s : ByteArray) : PVR S w (.str s) (.string s)
  | agg (cs : List AV) (xs : List Value) : cs.length = xs.length → (∀ (i : Nat) (c : AV), cs[i]? = some c → c.isCell = true) →
      (∀ (i : Nat) (c : AV) (x : Value), cs[i]? = some c → xs[i]? = some x → PVR S w c x) → PVR S w (.agg cs) (.agg xs.toArray)
  | tup (cs : List AV) (xs : List Value) : cs.length = xs.length →
      (∀ (i : Nat) (c : AV) (x : Value), cs[i]? = some c → xs[i]? = some x → PVR S w c x) → PVR S w (.tup cs) (.tuple xs.toArray)
  | nilptr : PVR S w .nilptr (.pointer none)
  | vptr (cs : List AV) (b o : Nat) (f : Nat → Value) : S b →
      (∀ (i : Nat) (c : AV), cs[i]? = some c → c.isCell = true ∧ w.cell? ⟨b, o + i, none⟩ = some (f i)) →
      (∀ (i : Nat) (c : AV), cs[i]? = some c → PVR S w c (f i)) → PVR S w (.vptr cs) (.pointer (some ⟨b, o, none⟩))
  | vsl (z : Nat) (es : List (List AV)) (cap : Option Nat) (a : Option Addr) (n c b o : Nat) (f : Nat → Nat → Value) : n = es.length → (z = 0 ↔ a = none) →
      (∀ k, cap = some k → c = k) → es.length ≤ c →
      (es ≠ [] → a = some ⟨b, o, none⟩ ∧ S b) →
      (∀ (i : Nat) (e : List AV), es[i]? = some e → e.length = z) →
      (∀ (i : Nat) (e : List AV) (j : Nat) (x : AV), es[i]? = some e → e[j]? = some x → x.isCell = true ∧ w.cell? ⟨b, o + i * z + j, none⟩ = some (f i j)) →
      (∀ (i : Nat) (e : List AV) (j : Nat) (x : AV), es[i]? = some e → e[j]? = some x → PVR S w x (f i j)) → PVR S w (.vsl z es cap) (.slice a n c)
  | nilfunc : PVR S w .nilfunc .nilFunc
  | func (fn : Fn) (as bs : List AV) (xs ys : List Value) : as.length = xs.length → bs.length = ys.length →
      (∀ (i : Nat) (c : AV) (x : Value), as[i]? = some c → xs[i]? = some x → PVR S w c x) → (∀ (i : Nat) (c : AV) (x : Value), bs[i]? = some c → ys[i]? = some x → PVR S w c x) →
      PVR S w (.func fn as bs) (.func fn xs.toArray ys.toArray)
  | nilmap : PVR S w .nilmap (.map none)
  | niliface : PVR S w .niliface .nilIface
  | iface (t : TypeId) (a : AV) (v : Value) : PVR S w a v → PVR S w (.iface t a) (.iface t v)

/-- All values. ρ: the block, and the place in it, at which a block of ours begins. -/
inductive AVR (ρ : Nat → Option (Nat × Nat)) (S : Nat → Prop) (w : World) : AV → Value → Prop
  | pv (a : AV) (v : Value) : PVR S w a v → AVR ρ S w a v
  | agg (cs : List AV) (xs : List Value) : cs.length = xs.length → (∀ (i : Nat) (c : AV), cs[i]? = some c → c.isCell = true) →
      (∀ (i : Nat) (c : AV) (x : Value), cs[i]? = some c → xs[i]? = some x → AVR ρ S w c x) → AVR ρ S w (.agg cs) (.agg xs.toArray)
  | tup (cs : List AV) (xs : List Value) : cs.length = xs.length →
      (∀ (i : Nat) (c : AV) (x : Value), cs[i]? = some c → xs[i]? = some x → AVR ρ S w c x) → AVR ρ S w (.tup cs) (.tuple xs.toArray)
  | ptr (id off b o : Nat) : ρ id = some (b, o) → AVR ρ S w (.ptr id off) (.pointer (some ⟨b, o + off, none⟩))
  | sl (id off len : Nat) (cap : Option Nat) (z b o c : Nat) (arr : Array Value) (ty : TypeId) (fz : Nat × Nat) : ρ id = some (b, o) →
      w.heap[b]? = some (.cells arr ty fz) → (∀ k, cap = some k → c = k) → (cap = none → o + off + c * z = arr.size) →
      o + off + c * z ≤ arr.size → len ≤ c → AVR ρ S w (.sl id off len cap z) (.slice (some ⟨b, o + off, none⟩) len c)
  | func (fn : Fn) (as bs : List AV) (xs ys : List Value) : as.length = xs.length → bs.length = ys.length →
      (∀ (i : Nat) (c : AV) (x : Value), as[i]? = some c → xs[i]? = some x → AVR ρ S w c x) → (∀ (i : Nat) (c : AV) (x : Value), bs[i]? = some c → ys[i]? = some x → AVR ρ S w c x) →
      AVR ρ S w (.func fn as bs) (.func fn xs.toArray ys.toArray)
  | map (id b : Nat) : ρ id = some (b, 0) → AVR ρ S w (.map id) (.map (some b))
  | iface (t : TypeId) (a : AV) (v : Value) : AVR ρ S w a v → AVR ρ S w (.iface t a) (.iface t v)

/-- What is asked of a world that goes on: the blocks of S are as they were, rows keep their sizes. -/
structure Ext (S : Nat → Prop) (w w' : World) : Prop where
  stab : ∀ b, S b → w'.heap[b]? = w.heap[b]?
  rows : ∀ (b : Nat) (arr : Array Value) (ty : TypeId) (fz : Nat × Nat), w.heap[b]? = some (.cells arr ty fz) → ∃ (arr' : Array Value) (fz' : Nat × Nat), w'.heap[b]? = some (.cells arr' ty fz') ∧ arr'.size = arr.size

theorem Ext.refl (S : Nat → Prop) (w : World) : Ext S w w := ⟨fun _ _ => rfl, fun _ arr _ fz h => ⟨arr, fz, h, rfl⟩⟩

theorem Ext.cell {S : Nat → Prop} {w w' : World} (h : Ext S w w') {b o : Nat} (hb : S b) : w'.cell? ⟨b, o, none⟩ = w.cell? ⟨b, o, none⟩ := by
  simp only [World.cell?, h.stab b hb]

theorem PVR.ext {S S' : Nat → Prop} {w w' : World} {a : AV} {v : Value} (h : PVR S w a v) (he : Ext S w w') (hS : ∀ b, S b → S' b) : PVR S' w' a v := by
  induction h with
  | undef => exact .undef
  | bool b => exact .bool b
  | int k n => exact .int k n
  | str s => exact .str s
  | agg cs xs h1 h2 _ ih => exact .agg cs xs h1 h2 ih
  | tup cs xs h1 _ ih => exact .tup cs xs h1 ih
  | nilptr => exact .nilptr
  | vptr cs b o f hb h1 _ ih => exact .vptr cs b o f (hS b hb) (fun i c hc => ⟨(h1 i c hc).1, by rw [he.cell hb]; exact (h1 i c hc).2⟩) ih
  | vsl z es cap a n c b o f hn hz h1 h2 h3 h4 h5 _ ih =>
    refine .vsl z es cap a n c b o f hn hz h1 h2 (fun hne => ⟨(h3 hne).1, hS b (h3 hne).2⟩) h4 (fun i e j x h h' => ⟨(h5 i e j x h h').1, ?_⟩) ih
    have hne : es ≠ [] := by rintro rfl; simp at h
    rw [he.cell (h3 hne).2]; exact (h5 i e j x h h').2
  | nilfunc => exact .nilfunc
  | func fn as bs xs ys h1 h2 _ _ ih1 ih2 => exact .func fn as bs xs ys h1 h2 ih1 ih2
  | nilmap => exact .nilmap
  | niliface => exact .niliface
  | iface t a v _ ih => exact .iface t a v ih

theorem AVR.ext {ρ ρ' : Nat → Option (Nat × Nat)} {S S' : Nat → Prop} {w w' : World} {a : AV} {v : Value} (h : AVR ρ S w a v) (he : Ext S w w') (hS : ∀ b, S b → S' b)
    (hρ : ∀ id x, ρ id = some x → ρ' id = some x) : AVR ρ' S' w' a v := by
  induction h with
  | pv a v h => exact .pv a v (h.ext he hS)
  | agg cs xs h1 h2 _ ih => exact .agg cs xs h1 h2 ih
  | tup cs xs h1 _ ih => exact .tup cs xs h1 ih
  | ptr id off b o h => exact .ptr id off b o (hρ _ _ h)
  | sl id off len cap z b o c arr ty fz h1 h2 h3 h4 h5 h6 =>
    obtain ⟨arr', fz', e1, e2⟩ := he.rows b arr ty fz h2
    exact .sl id off len cap z b o c arr' ty fz' (hρ _ _ h1) e1 h3 (by rw [e2]; exact h4) (by rw [e2]; exact h5) h6
  | func fn as bs xs ys h1 h2 _ _ ih1 ih2 => exact .func fn as bs xs ys h1 h2 ih1 ih2
  | map id b h => exact .map id b (hρ _ _ h)
  | iface t a v _ ih => exact .iface t a v ih

inductive Blk where
  | cells (cs : List AV) (ro : Bool)
  | map (es : List (AV × AV × Nat)) (clock : Nat)
  deriving Inhabited

def Blk.ro : Blk → Bool
  | .cells _ ro => ro
  | .map .. => false

abbrev AHeap := Nat → Option Blk

/-- What a block of ours stands for. -/
def RelB (ρ : Nat → Option (Nat × Nat)) (S : Nat → Prop) (w : World) (id : Nat) : Blk → Prop
  | .cells cs ro => ∃ b o arr ty fz, ρ id = some (b, o) ∧ w.heap[b]? = some (.cells arr ty fz) ∧ o + cs.length ≤ arr.size ∧
      (∀ (i : Nat) (c : AV), cs[i]? = some c → c.isCell = true ∧ ∃ v, arr[o + i]? = some v ∧ AVR ρ S w c v) ∧
      (∀ i, i < arr.size → ¬ (fz.1 ≤ i ∧ i < fz.2)) ∧ (if ro then S b else ¬ S b)
  | .map es clock => ∃ b ents, ρ id = some (b, 0) ∧ w.heap[b]? = some (.map ents clock) ∧ ents.size = es.length ∧
      (∀ (i : Nat) (k x : AV) (n : Nat), es[i]? = some (k, x, n) → ∃ m : MapEntry, ents[i]? = some m ∧ AVR ρ S w k m.key ∧ AVR ρ S w x m.val ∧ m.born = n) ∧ ¬ S b

structure RelH (ρ : Nat → Option (Nat × Nat)) (S : Nat → Prop) (h : AHeap) (w : World) : Prop where
  live : ∀ id blk, h id = some blk → RelB ρ S w id blk
  inj : ∀ id id' blk blk' b o b' o', h id = some blk → h id' = some blk' → ρ id = some (b, o) → ρ id' = some (b', o') → id ≠ id' → b ≠ b'
  bound : ∀ b, S b → b < w.heap.size
  dom : ∀ id b o, ρ id = some (b, o) → b < w.heap.size
  zero : ∀ id b o, ρ id = some (b, o) → o = 0

/-- The blocks that may be written. -/
def own (ρ : Nat → Option (Nat × Nat)) (h : AHeap) (b : Nat) : Prop := ∃ id blk o, h id = some blk ∧ blk.ro = false ∧ ρ id = some (b, o)

/-- A world that goes on: only blocks of 'o' may have turned. -/
structure Fr (o : Nat → Prop) (w w' : World) : Prop where
  os : w'.os = w.os
  tape : w'.tape = w.tape
  output : w'.output = w.output
  size : w.heap.size ≤ w'.heap.size
  kept : ∀ b, b < w.heap.size → ¬ o b → w'.heap[b]? = w.heap[b]?
  rows : ∀ (b : Nat) (arr : Array Value) (ty : TypeId) (fz : Nat × Nat), w.heap[b]? = some (.cells arr ty fz) → ∃ (arr' : Array Value) (fz' : Nat × Nat), w'.heap[b]? = some (.cells arr' ty fz') ∧ arr'.size = arr.size
  froz : ∀ x : Addr, x.block < w.heap.size → w'.frozen? x = w.frozen? x

theorem Fr.refl (o : Nat → Prop) (w : World) : Fr o w w := ⟨rfl, rfl, rfl, Nat.le_refl _, fun _ _ _ => rfl, fun _ arr _ fz h => ⟨arr, fz, h, rfl⟩, fun _ _ => rfl⟩

theorem Fr.trans {o o' : Nat → Prop} {w w1 w2 : World} (h : Fr o w w1) (h' : Fr o' w1 w2) (ho : ∀ b, o' b → o b ∨ w.heap.size ≤ b) : Fr o w w2 := by
  refine ⟨h'.os.trans h.os, h'.tape.trans h.tape, h'.output.trans h.output, Nat.le_trans h.size h'.size, fun b hb hn => ?_, fun b arr ty fz hx => ?_, fun x hx => (h'.froz x (Nat.lt_of_lt_of_le hx h.size)).trans (h.froz x hx)⟩
  · rw [h'.kept b (Nat.lt_of_lt_of_le hb h.size) (fun hc => by rcases ho b hc with h1 | h1; exact hn h1; omega), h.kept b hb hn]
  · obtain ⟨arr1, fz1, e1, e2⟩ := h.rows b arr ty fz hx
    obtain ⟨arr2, fz2, e3, e4⟩ := h'.rows b arr1 ty fz1 e1
    exact ⟨arr2, fz2, e3, e4.trans e2⟩

theorem Fr.mono {o o' : Nat → Prop} {w w1 : World} (h : Fr o w w1) (ho : ∀ b, o b → o' b) : Fr o' w w1 :=
  ⟨h.os, h.tape, h.output, h.size, fun b hb hn => h.kept b hb (fun hc => hn (ho b hc)), h.rows, h.froz⟩

/-- How a state goes on. -/
structure Adv (ρ : Nat → Option (Nat × Nat)) (S : Nat → Prop) (h : AHeap) (w : World) (ρ' : Nat → Option (Nat × Nat)) (S' : Nat → Prop) (h' : AHeap) (w' : World) : Prop where
  fr : Fr (own ρ h) w w'
  up : ∀ b, S b → S' b
  down : ∀ b, S' b → S b ∨ own ρ h b ∨ w.heap.size ≤ b
  owned : ∀ b, own ρ' h' b → own ρ h b ∨ w.heap.size ≤ b
  ids : ∀ id x, ρ id = some x → ρ' id = some x

theorem Adv.refl (ρ : Nat → Option (Nat × Nat)) (S : Nat → Prop) (h : AHeap) (w : World) : Adv ρ S h w ρ S h w :=
  ⟨.refl _ _, fun _ h => h, fun _ h => .inl h, fun _ h => .inl h, fun _ _ h => h⟩

theorem Adv.trans {ρ ρ1 ρ2 : Nat → Option (Nat × Nat)} {S S1 S2 : Nat → Prop} {h h1 h2 : AHeap} {w w1 w2 : World}
    (a : Adv ρ S h w ρ1 S1 h1 w1) (b : Adv ρ1 S1 h1 w1 ρ2 S2 h2 w2) : Adv ρ S h w ρ2 S2 h2 w2 := by
  refine ⟨a.fr.trans b.fr a.owned, fun x hx => b.up x (a.up x hx), fun x hx => ?_, fun x hx => ?_, fun id x hx => b.ids id x (a.ids id x hx)⟩
  · rcases b.down x hx with h | h | h
    · exact a.down x h
    · exact .inr (a.owned x h)
    · exact .inr (.inr (Nat.le_trans a.fr.size h))
  · rcases b.owned x hx with h | h
    · exact a.owned x h
    · exact .inr (Nat.le_trans a.fr.size h)

/-- S is apart from what may be written. -/
theorem RelH.apart {ρ : Nat → Option (Nat × Nat)} {S : Nat → Prop} {h : AHeap} {w : World} (r : RelH ρ S h w) {b : Nat} (hs : S b) : ¬ own ρ h b := by
  rintro ⟨id, blk, o, h1, h2, h3⟩
  have := r.live id blk h1
  cases blk with
  | cells cs ro =>
    simp only [Blk.ro] at h2
    obtain ⟨b', o', arr, ty, fz, e1, e2, _, e3, e4, e5⟩ := this
    rw [h3] at e1; injection e1 with e1; injection e1 with e1 _; subst e1
    rw [h2] at e5; exact e5 hs
  | map es clock =>
    obtain ⟨b', ents, e1, e2, e3, e4, e5⟩ := this
    rw [h3] at e1; injection e1 with e1; injection e1 with e1 _; subst e1
    exact e5 hs

theorem RelH.ext {ρ : Nat → Option (Nat × Nat)} {S : Nat → Prop} {h : AHeap} {w w' : World} (r : RelH ρ S h w) (f : Fr (own ρ h) w w') : Ext S w w' :=
  ⟨fun b hb => f.kept b (r.bound b hb) (r.apart hb), f.rows⟩

/-- Values live on while the state goes on. -/
theorem AVR.adv {ρ ρ' : Nat → Option (Nat × Nat)} {S S' : Nat → Prop} {h h' : AHeap} {w w' : World} {a : AV} {v : Value} (hv : AVR ρ S w a v) (r : RelH ρ S h w)
    (d : Adv ρ S h w ρ' S' h' w') : AVR ρ' S' w' a v := hv.ext (r.ext d.fr) d.up d.ids
theorem PVR.adv {ρ ρ' : Nat → Option (Nat × Nat)} {S S' : Nat → Prop} {h h' : AHeap} {w w' : World} {a : AV} {v : Value} (hv : PVR S w a v) (r : RelH ρ S h w)
    (d : Adv ρ S h w ρ' S' h' w') : PVR S' w' a v := hv.ext (r.ext d.fr) d.up

end Go.Fw
