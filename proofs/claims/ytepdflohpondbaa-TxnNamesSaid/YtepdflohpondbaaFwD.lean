/- Each abstract operation is what the model's operation does: reads, addresses, numbers. -/
import Derived.Test.YtepdflohpondbaaFwC
namespace Go.Fw

/-- What an operation has left. -/
def Good (ρ : Nat → Option (Nat × Nat)) (S : Nat → Prop) (h : AHeap) (w : World) (n : Nat) (u : Value) (w' : World) (a : AV) (U : List (Nat × Option Blk)) : Prop :=
  ∃ ρ' S', AVR ρ' S' w' a u ∧ RelH ρ' S' (app h U) w' ∧ Adv ρ S h w ρ' S' (app h U) w' ∧ ∀ id, id ≠ n → ρ' id = ρ id

section
variable {P : Program} {ρ : Nat → Option (Nat × Nat)} {S : Nat → Prop} {h : AHeap} {w : World} {n : Nat}

theorem Good.quiet (r : RelH ρ S h w) {a : AV} {u : Value} (hv : AVR ρ S w a u) : Good ρ S h w n u w a [] :=
  ⟨ρ, S, hv, r, .refl _ _ _ _, fun _ _ => rfl⟩

/-! ### Values -/
theorem avr_bool {b : Bool} {v : Value} (hv : AVR ρ S w (.bool b) v) : v = .bool b := by cases hv with | pv _ _ hp => cases hp; rfl
theorem avr_int {k : IntKind} {m : Int} {v : Value} (hv : AVR ρ S w (.int k m) v) : v = .int k m := by cases hv with | pv _ _ hp => cases hp; rfl
theorem avr_str {s : ByteArray} {v : Value} (hv : AVR ρ S w (.str s) v) : v = .string s := by cases hv with | pv _ _ hp => cases hp; rfl
theorem avr_undef {v : Value} (hv : AVR ρ S w .undef v) : v = Go.undef := by cases hv with | pv _ _ hp => cases hp; rfl
theorem avr_agg {cs : List AV} {v : Value} (hv : AVR ρ S w (.agg cs) v) : ∃ xs : List Value, v = .agg xs.toArray ∧ cs.length = xs.length ∧ (∀ (i : Nat) (c : AV), cs[i]? = some c → c.isCell = true) ∧
    (∀ (i : Nat) (c : AV) (x : Value), cs[i]? = some c → xs[i]? = some x → AVR ρ S w c x) := by
  cases hv with
  | pv _ _ hp => cases hp with | agg _ xs h1 h2 h3 => exact ⟨xs, rfl, h1, h2, fun i c x a b => .pv _ _ (h3 i c x a b)⟩
  | agg _ xs h1 h2 h3 => exact ⟨xs, rfl, h1, h2, h3⟩
theorem avr_tup {cs : List AV} {v : Value} (hv : AVR ρ S w (.tup cs) v) : ∃ xs : List Value, v = .tuple xs.toArray ∧ cs.length = xs.length ∧
    (∀ (i : Nat) (c : AV) (x : Value), cs[i]? = some c → xs[i]? = some x → AVR ρ S w c x) := by
  cases hv with
  | pv _ _ hp => cases hp with | tup _ xs h1 h3 => exact ⟨xs, rfl, h1, fun i c x a b => .pv _ _ (h3 i c x a b)⟩
  | tup _ xs h1 h3 => exact ⟨xs, rfl, h1, h3⟩
theorem avr_ptr {id off : Nat} {v : Value} (hv : AVR ρ S w (.ptr id off) v) : ∃ b o, v = .pointer (some ⟨b, o + off, none⟩) ∧ ρ id = some (b, o) := by
  cases hv with
  | pv _ _ hp => cases hp
  | ptr _ _ b o h1 => exact ⟨b, o, rfl, h1⟩
theorem avr_map {id : Nat} {v : Value} (hv : AVR ρ S w (.map id) v) : ∃ b, v = .map (some b) ∧ ρ id = some (b, 0) := by
  cases hv with
  | pv _ _ hp => cases hp
  | map _ b h1 => exact ⟨b, rfl, h1⟩
theorem avr_vptr {cs : List AV} {v : Value} (hv : AVR ρ S w (.vptr cs) v) : ∃ b o, v = .pointer (some ⟨b, o, none⟩) ∧ S b ∧
    ∀ (i : Nat) (c : AV), cs[i]? = some c → c.isCell = true ∧ ∃ u, w.cell? ⟨b, o + i, none⟩ = some u ∧ PVR S w c u := by
  cases hv with
  | pv _ _ hp => cases hp with | vptr _ b o f hb h1 h2 => exact ⟨b, o, rfl, hb, fun i c hc => ⟨(h1 i c hc).1, f i, (h1 i c hc).2, h2 i c hc⟩⟩
theorem avr_vsl {z : Nat} {es : List (List AV)} {cap : Option Nat} {v : Value} (hv : AVR ρ S w (.vsl z es cap) v) : ∃ a c b o, v = .slice a es.length c ∧ (∀ k, cap = some k → c = k) ∧ es.length ≤ c ∧
    (es ≠ [] → a = some ⟨b, o, none⟩ ∧ S b) ∧ (∀ (i : Nat) (e : List AV), es[i]? = some e → e.length = z) ∧
    (∀ (i : Nat) (e : List AV) (j : Nat) (x : AV), es[i]? = some e → e[j]? = some x → x.isCell = true ∧ ∃ u, w.cell? ⟨b, o + i * z + j, none⟩ = some u ∧ PVR S w x u) := by
  cases hv with
  | pv _ _ hp => cases hp with
    | vsl _ _ _ a n c b o f hn hz h1 h2 h3 h4 h5 h6 => subst hn; exact ⟨a, c, b, o, rfl, h1, h2, h3, h4, fun i e j x a b => ⟨(h5 i e j x a b).1, f i j, (h5 i e j x a b).2, h6 i e j x a b⟩⟩
theorem avr_vsl_z {z : Nat} {es : List (List AV)} {cap : Option Nat} {a : Option Addr} {n c : Nat} (hv : AVR ρ S w (.vsl z es cap) (.slice a n c)) : z = 0 ↔ a = none := by
  cases hv with
  | pv _ _ hp => cases hp with
    | vsl _ _ _ a n c b o f hn hz h1 h2 h3 h4 h5 h6 => exact hz
theorem avr_sl {id off len z : Nat} {cap : Option Nat} {v : Value} (hv : AVR ρ S w (.sl id off len cap z) v) : ∃ b o c arr ty fz, v = .slice (some ⟨b, o + off, none⟩) len c ∧ ρ id = some (b, o) ∧
    w.heap[b]? = some (.cells arr ty fz) ∧ (∀ k, cap = some k → c = k) ∧ (cap = none → o + off + c * z = arr.size) ∧ o + off + c * z ≤ arr.size ∧ len ≤ c := by
  cases hv with
  | pv _ _ hp => cases hp
  | sl _ _ _ _ _ b o c arr ty fz h1 h2 h3 h4 h5 h6 => exact ⟨b, o, c, arr, ty, fz, rfl, h1, h2, h3, h4, h5, h6⟩
theorem avr_iface {t : TypeId} {a : AV} {v : Value} (hv : AVR ρ S w (.iface t a) v) : ∃ u, v = .iface t u ∧ AVR ρ S w a u := by
  cases hv with
  | pv _ _ hp => cases hp with | iface _ _ u h1 => exact ⟨u, rfl, .pv _ _ h1⟩
  | iface _ _ u h1 => exact ⟨u, rfl, h1⟩
theorem avr_func {fn : Fn} {as bs : List AV} {v : Value} (hv : AVR ρ S w (.func fn as bs) v) : ∃ xs ys : List Value, v = .func fn xs.toArray ys.toArray ∧ as.length = xs.length ∧ bs.length = ys.length ∧
    (∀ (i : Nat) (c : AV) (x : Value), as[i]? = some c → xs[i]? = some x → AVR ρ S w c x) ∧ (∀ (i : Nat) (c : AV) (x : Value), bs[i]? = some c → ys[i]? = some x → AVR ρ S w c x) := by
  cases hv with
  | pv _ _ hp => cases hp with | func _ _ _ xs ys h1 h2 h3 h4 => exact ⟨xs, ys, rfl, h1, h2, fun i c x a b => .pv _ _ (h3 i c x a b), fun i c x a b => .pv _ _ (h4 i c x a b)⟩
  | func _ _ _ xs ys h1 h2 h3 h4 => exact ⟨xs, ys, rfl, h1, h2, h3, h4⟩
theorem avr_nilptr {v : Value} (hv : AVR ρ S w .nilptr v) : v = .pointer none := by cases hv with | pv _ _ hp => cases hp; rfl
theorem avr_niliface {v : Value} (hv : AVR ρ S w .niliface v) : v = .nilIface := by cases hv with | pv _ _ hp => cases hp; rfl
theorem avr_nilfunc {v : Value} (hv : AVR ρ S w .nilfunc v) : v = .nilFunc := by cases hv with | pv _ _ hp => cases hp; rfl
theorem avr_nilmap {v : Value} (hv : AVR ρ S w .nilmap v) : v = .map none := by cases hv with | pv _ _ hp => cases hp; rfl

theorem AVR.bool (b : Bool) : AVR ρ S w (.bool b) (.bool b) := .pv _ _ (.bool b)
theorem AVR.int (k : IntKind) (m : Int) : AVR ρ S w (.int k m) (.int k m) := .pv _ _ (.int k m)
theorem AVR.str (s : ByteArray) : AVR ρ S w (.str s) (.string s) := .pv _ _ (.str s)
theorem AVR.undef : AVR ρ S w .undef Go.undef := .pv _ _ .undef

/-- A cell is no aggregate. -/
theorem AVR.oneCell {a : AV} {v : Value} (hv : AVR ρ S w a v) (hc : a.isCell = true) : v.oneCell' = true := by
  cases hv with
  | pv _ _ hp => cases hp <;> first | rfl | (simp [AV.isCell] at hc)
  | _ => first | rfl | (simp [AV.isCell] at hc)
theorem AVR.cells_one {a : AV} {v : Value} (hv : AVR ρ S w a v) (hc : a.isCell = true) : v.cells = #[v] := by
  have := hv.oneCell hc
  cases v <;> first | rfl | (simp [Value.oneCell'] at this)

theorem cellsOf_cells {a : AV} {v : Value} {cs : List AV} (hv : AVR ρ S w a v) (hc : a.cellsOf = some cs) : ∃ xs : List Value, v.cells = xs.toArray ∧ cs.length = xs.length ∧ (∀ (i : Nat) (c : AV), cs[i]? = some c → c.isCell = true) ∧
    (∀ (i : Nat) (c : AV) (x : Value), cs[i]? = some c → xs[i]? = some x → AVR ρ S w c x) := by
  have other : a.isCell = true → cs = [a] → ∃ xs : List Value, v.cells = xs.toArray ∧ cs.length = xs.length ∧ (∀ (i : Nat) (c : AV), cs[i]? = some c → c.isCell = true) ∧
    (∀ (i : Nat) (c : AV) (x : Value), cs[i]? = some c → xs[i]? = some x → AVR ρ S w c x) := by
    rintro h1 rfl
    refine ⟨[v], hv.cells_one h1, rfl, fun i c hc => ?_, fun i c x hc hx => ?_⟩
    · cases i with
      | zero => simp at hc; subst hc; exact h1
      | succ i => simp at hc
    · cases i with
      | zero => simp at hc hx; subst hc; subst hx; exact hv
      | succ i => simp at hc
  cases a with
  | agg ds =>
    simp only [AV.cellsOf, Option.some.injEq] at hc; subst hc
    obtain ⟨xs, rfl, h1, h2, h3⟩ := avr_agg hv
    exact ⟨xs, rfl, h1, h2, h3⟩
  | _ =>
    simp only [AV.cellsOf] at hc
    split at hc
    · rename_i hi; injection hc with hc; exact other hi hc.symm
    · cases hc

/-! ### Types -/
def tyPt (P : Program) (t : TypeId) : Option Pt :=
  match P.info? t with
  | none => none
  | some i => match P.underlying t with
    | some (.struct _) | some (.array _ _) => some (some i.size)
    | some _ => some none
    | none => none

theorem run_isAgg_pt {t : TypeId} {k : Pt} (hk : tyPt P t = some k) : (isAgg t).run P w = .ok k.isSome w := by
  unfold tyPt at hk
  unfold isAgg underlying
  cases hi : P.info? t with
  | none => simp [hi] at hk
  | some i =>
    simp only [hi] at hk
    cases hu : P.underlying t with
    | none => simp [hu] at hk
    | some d => cases d <;> simp [hu] at hk <;> subst hk <;> simp [hu]

theorem run_sizeOf_pt {t : TypeId} {m : Nat} (hk : tyPt P t = some (some m)) : (sizeOf t).run P w = .ok m w := by
  unfold tyPt at hk
  unfold sizeOf typeInfo
  cases hi : P.info? t with
  | none => simp [hi] at hk
  | some i =>
    simp only [hi] at hk
    cases hu : P.underlying t with
    | none => simp [hu] at hk
    | some d => cases d <;> simp [hu] at hk <;> subst hk <;> simp [hi]

/-! ### Reading -/
/-- The cells from a place on. -/
def Cells (ρ : Nat → Option (Nat × Nat)) (S : Nat → Prop) (w : World) (b o : Nat) (cs : List AV) : Prop :=
  ∀ (i : Nat) (c : AV), cs[i]? = some c → c.isCell = true ∧ ∃ u, w.cell? ⟨b, o + i, none⟩ = some u ∧ AVR ρ S w c u

theorem Cells.drop {b o : Nat} {cs : List AV} (hc : Cells ρ S w b o cs) (k : Nat) : Cells ρ S w b (o + k) (cs.drop k) := fun i c hi => by
  rw [List.getElem?_drop] at hi
  have := hc (k + i) c hi
  rwa [← Nat.add_assoc] at this
theorem Cells.take {b o : Nat} {cs : List AV} (hc : Cells ρ S w b o cs) (k : Nat) : Cells ρ S w b o (cs.take k) := fun i c hi => by
  rw [List.getElem?_take] at hi
  split at hi
  · exact hc i c hi
  · cases hi

/-- The values in the cells. -/
theorem Cells.vals {b o : Nat} {cs : List AV} (hc : Cells ρ S w b o cs) : ∃ xs : List Value, cs.length = xs.length ∧ (∀ (j : Nat) v, xs[j]? = some v → w.cell? ((⟨b, o, none⟩ : Addr).add j) = some v) ∧
    (∀ (i : Nat) (c : AV) (x : Value), cs[i]? = some c → xs[i]? = some x → AVR ρ S w c x) := by
  refine ⟨(List.range cs.length).map fun i => (w.cell? ⟨b, o + i, none⟩).getD Go.undef, by simp, fun j v hj => ?_, fun i c x hi hx => ?_⟩
  · rw [addr_add]
    have hlt : j < cs.length := by
      rcases Nat.lt_or_ge j cs.length with h1 | h1
      · exact h1
      · simp [h1] at hj
    obtain ⟨_, u, e1, _⟩ := hc j cs[j] (by simp [hlt])
    simp [hlt, e1] at hj
    rw [e1, hj]
  · obtain ⟨_, u, e1, e2⟩ := hc i c hi
    have hlt : i < cs.length := (List.getElem?_eq_some_iff.1 hi).1
    simp [hlt, e1] at hx
    rw [← hx]; exact e2

theorem cellsAt_cells (r : RelH ρ S h w) {a : AV} {v : Value} {cs : List AV} (hv : AVR ρ S w a v) (hc : cellsAt h a = some cs) : ∃ b o, v = .pointer (some ⟨b, o, none⟩) ∧ Cells ρ S w b o cs := by
  cases a with
  | ptr id off =>
    obtain ⟨b, o, rfl, h1⟩ := avr_ptr hv
    simp only [cellsAt] at hc
    cases hx : h id with
    | none => simp [hx] at hc
    | some blk =>
      cases blk with
      | map es ck => simp [hx] at hc
      | cells ds ro =>
        simp [hx] at hc; subst hc
        obtain ⟨b', o', arr, ty, fz, e1, e2, _, e3, _⟩ := r.live id _ hx
        rw [h1] at e1; injection e1 with e1; injection e1 with e1 e1'; subst e1; subst e1'
        refine ⟨b, o + off, rfl, Cells.drop (fun i c hi => ?_) off⟩
        obtain ⟨f1, u, f2, f3⟩ := e3 i c hi
        exact ⟨f1, u, by rw [cell_of_heap e2]; exact f2, f3⟩
  | vptr ds =>
    simp only [cellsAt, Option.some.injEq] at hc; subst hc
    obtain ⟨b, o, rfl, _, h1⟩ := avr_vptr hv
    refine ⟨b, o, rfl, fun i c hi => ?_⟩
    obtain ⟨f1, u, f2, f3⟩ := h1 i c hi
    exact ⟨f1, u, f2, .pv _ _ f3⟩
  | _ => simp [cellsAt] at hc

theorem run_loadVar_cells {t : TypeId} {k : Pt} {b o : Nat} {cs : List AV} {a : AV} (hk : tyPt P t = some k) (hc : Cells ρ S w b o cs) (hp : partOf k cs = some a) :
    ∃ u, (loadVar t ⟨b, o, none⟩).run P w = .ok u w ∧ AVR ρ S w a u := by
  cases k with
  | none =>
    simp only [partOf] at hp
    cases cs with
    | nil => cases hp
    | cons c cs =>
      simp at hp; subst hp
      obtain ⟨_, u, e1, e2⟩ := hc 0 c (by simp)
      refine ⟨u, ?_, e2⟩
      unfold loadVar
      simp only [Nat.add_zero] at e1
      simp [run_isAgg_pt hk, e1]
  | some m =>
    simp only [partOf] at hp
    split at hp
    · rename_i hm
      injection hp with hp; subst hp
      have hc' := hc.take m
      obtain ⟨xs, h1, h2, h3⟩ := hc'.vals
      have hl : xs.length = m := by rw [← h1]; simp; omega
      refine ⟨.agg xs.toArray, ?_, .agg _ xs h1 (fun i c hi => (hc' i c hi).1) h3⟩
      unfold loadVar
      have hld := run_loadCells_list (P := P) w ⟨b, o, none⟩ xs h2
      rw [hl] at hld
      simp [run_isAgg_pt hk, run_sizeOf_pt hk, hld]
    · cases hp

theorem snd_load (r : RelH ρ S h w) {t : TypeId} {k : Pt} {a x : AV} {v : Value} {cs : List AV} (hk : tyPt P t = some k) (hv : AVR ρ S w x v) (hc : cellsAt h x = some cs) (hp : partOf k cs = some a) :
    ∃ u, (Instr.loadAt t v).run P w = .ok u w ∧ AVR ρ S w a u := by
  obtain ⟨b, o, rfl, h1⟩ := cellsAt_cells r hv hc
  obtain ⟨u, e1, e2⟩ := run_loadVar_cells hk h1 hp
  exact ⟨u, by simp [Instr.loadAt, Instr.sureAddr, e1], e2⟩

/-- A part of an aggregate. -/
theorem snd_part {t : TypeId} {k : Pt} {cs : List AV} {xs : List Value} {off : Nat} {a : AV} (hk : tyPt P t = some k) (h1 : cs.length = xs.length) (h2 : ∀ (i : Nat) (c : AV), cs[i]? = some c → c.isCell = true)
    (h3 : ∀ (i : Nat) (c : AV) (x : Value), cs[i]? = some c → xs[i]? = some x → AVR ρ S w c x) (hp : partOf k (cs.drop off) = some a) :
    ∃ u, (part t xs.toArray off).run P w = .ok u w ∧ AVR ρ S w a u := by
  cases k with
  | none =>
    simp only [partOf, List.head?_drop] at hp
    have hlt : off < xs.length := by rw [← h1]; exact (List.getElem?_eq_some_iff.1 hp).1
    refine ⟨xs[off], ?_, h3 off a _ hp (by simp [hlt])⟩
    unfold part
    simp [run_isAgg_pt hk, hlt]
  | some m =>
    simp only [partOf] at hp
    split at hp
    · rename_i hm
      injection hp with hp; subst hp
      simp only [List.length_drop] at hm
      refine ⟨.agg (xs.toArray.extract off (off + m)), ?_, ?_⟩
      · unfold part
        simp [run_isAgg_pt hk, run_sizeOf_pt hk]
      · have e : xs.toArray.extract off (off + m) = ((xs.drop off).take m).toArray := by
          simp [List.extract_toArray, List.extract_eq_take_drop]
        rw [e]
        refine .agg _ _ (by simp [h1]) (fun i c hi => ?_) (fun i c x hi hx => ?_)
        · rw [List.getElem?_take] at hi
          split at hi
          · rw [List.getElem?_drop] at hi; exact h2 _ _ hi
          · cases hi
        · rw [List.getElem?_take] at hi hx
          split at hi
          · rename_i hlt
            rw [if_pos hlt, List.getElem?_drop] at hx
            rw [List.getElem?_drop] at hi
            exact h3 _ _ _ hi hx
          · cases hi
    · cases hp
end
end Go.Fw
