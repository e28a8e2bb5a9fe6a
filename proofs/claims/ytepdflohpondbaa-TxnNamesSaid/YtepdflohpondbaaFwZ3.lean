/- A contract holds wherever the call stands. -/
import Derived.Test.YtepdflohpondbaaFwZ2
set_option linter.unusedSimpArgs false
set_option linter.unusedVariables false
namespace Go.Fw.Sy

mutual
theorem viewAV_ids (h : AHeap) : ∀ (f : Nat) {a x : AV}, viewAV h f a = some x → x.ids = []
  | 0, a, x, hx => by simp [viewAV] at hx
  | f + 1, a, x, hx => by
    rw [viewAV.eq_def] at hx; simp only at hx
    split at hx
    · rename_i hids
      injection hx with hx; subst hx; exact hids
    · split at hx
      · split at hx
        · split at hx
          · split at hx
            · injection hx with hx; subst hx; rfl
            · cases hx
          · cases hx
        · cases hx
      · split at hx
        · split at hx
          · injection hx with hx; subst hx; rfl
          · cases hx
        · cases hx
      · rw [Option.map_eq_some_iff] at hx
        obtain ⟨vs, hvs, rfl⟩ := hx
        simp only [AV.ids]; exact viewL_ids h f hvs
      · cases hx
theorem viewL_ids (h : AHeap) : ∀ (f : Nat) {l vs : List AV}, viewL h f l = some vs → idsList vs = []
  | 0, l, vs, hx => by simp [viewL] at hx
  | f + 1, l, vs, hx => by
    rw [viewL.eq_def] at hx; simp only at hx
    split at hx
    · rename_i hids
      injection hx with hx; subst hx; exact hids
    · split at hx
      · injection hx with hx; subst hx; rfl
      · split at hx
        · rename_i x y h1 h2
          injection hx with hx; subst hx
          simp only [idsList, viewAV_ids h f h1, viewL_ids h f h2, List.append_nil]
        · cases hx
end

theorem viewL_same {h : AHeap} {f : Nat} {l vs : List AV} (hx : viewL h f l = some vs) (hl : idsList l = []) : vs = l := by
  cases f with
  | zero => simp [viewL] at hx
  | succ f =>
    rw [viewL_nil h f l hl] at hx
    injection hx with hx; exact hx.symm

section
variable {P : Program} {G : Glob} {ρ : Nat → Option (Nat × Nat)} {S : Nat → Prop} {h : AHeap} {w : World}

theorem relH_shown {T : Nat → Prop} (r : RelH ρ S h w) (hT : ∀ b, T b → S b ∨ own ρ h b) : RelH noR T noA w where
  live := fun id b h => by cases h
  inj := fun id id' b b' x y x' y' h => by cases h
  bound := fun b hb => by
    rcases hT b hb with h1 | ⟨i, bi, o, _, _, e⟩
    · exact r.bound b h1
    · exact r.dom i b o e
  dom := fun id b o h => by cases h
  zero := fun id b o h => by cases h

theorem at0_get {ids : List Nat} {i : Nat} (h : i < ids.length) : ids[i]? = some (at0 ids i) := by
  simp [at0, List.getD_eq_getElem?_getD, List.getElem?_eq_getElem h]

theorem pureK_ok {f : FuncId} {sp : Sp} (hs : SpOk P G f sp) : ∀ as h n r h' n', pureK sp as h n = some (r, h', n') → n ≤ n' → Callable P f ∧ ∀ N, n' ≤ N → AFn P G f as h n N (fun r' h'' n'' => r' = r ∧ h'' = h' ∧ n'' = n') := by
  intro as h n r h' n' hk hn
  unfold pureK at hk
  split at hk
  case h_2 => cases hk
  rename_i us hus
  split at hk
  case h_2 => cases hk
  rename_i r1 bs hsp
  split at hk
  case isFalse => cases hk
  rename_i hcond
  obtain ⟨hcall, r0, h0, n0, ids, hx, hnd, hr, hl, e1, e2⟩ := hs us r1 bs (viewL_ids h _ hus) hsp
  refine ⟨hcall, fun N hNN => ?_⟩
  have hlen : bs.length = ids.length := by simpa using congrArg List.length e2
  have hbs : ∀ i, i < ids.length → (bs[i]?) = (h0 (at0 ids i)).map (renB fun i => ids.idxOf i) := fun i hi => by
    have := congrArg (fun l => l[i]?) e2
    simp only [List.getElem?_map, at0_get hi, Option.map_some] at this
    have hb : bs[i]? = some (bs[i]'(by omega)) := List.getElem?_eq_getElem _
    rw [hb] at this ⊢
    simpa using this
  -- what is handed back
  have key : r = ren (fun i => n + ids.idxOf i) r0 ∧ h' = hN h h0 n ids ∧ n' = n + ids.length := by
    split at hk
    · split at hk
      · rename_i hids
        injection hk with hk
        simp only [Prod.mk.injEq] at hk
        obtain ⟨rfl, rfl, rfl⟩ := hk
        have hz : ids = [] := by
          cases ids with
          | nil => rfl
          | cons a t => simp at hlen
        subst hz
        refine ⟨?_, ?_, rfl⟩
        · have := ids_nil_ren (fun i => n + i) r1 hids
          rw [e1, ren_comp] at this
          rw [e1]; exact this.symm
        · funext id
          have : inR n ([] : List Nat).length id = false := by
            rw [Bool.eq_false_iff]; intro hc
            have := inR_iff.1 hc
            simp at this; omega
          simp only [hN, this, cond_false]
      · cases hk
    · rename_i b bt
      injection hk with hk
      simp only [Prod.mk.injEq] at hk
      obtain ⟨rfl, rfl, rfl⟩ := hk
      refine ⟨by rw [e1, ren_comp], ?_, by rw [hlen]⟩
      funext id
      simp only [hAdd, hN, hlen]
      cases hc : inR n ids.length id with
      | false => rfl
      | true =>
        have hi := inR_iff.1 hc
        rw [cond_true, cond_true, hbs (id - n) (by omega), Option.map_map]
        congr 1
        funext x
        simp only [Function.comp, renB_comp]
  obtain ⟨rfl, rfl, rfl⟩ := key
  intro ρ S w vs rh hfr hg hlv ha
  -- with what it is shown
  have main : ∀ (T : Nat → Prop), (∀ b, S b → T b) → (∀ b, T b → S b ∨ own ρ h b) → (∀ (i : Nat) (c : AV) (v : Value), us[i]? = some c → vs[i]? = some v → PVR T w c v) → us.length = vs.length →
      ((∀ b, T b → S b) ∨ (flat r0 = true ∧ ∀ id ∈ ids, ∀ blk, h0 id = some blk → flatB blk = true)) →
      Calls P f vs.toArray w (fun e w' => ∃ v c h' n' ρ' S', e = .returned v ∧ AVR ρ' S' w' c v ∧ RelH ρ' S' h' w' ∧ Adv ρ S h w ρ' S' h' w' ∧ (∀ id, id < n ∨ n' ≤ id → ρ' id = ρ id) ∧ n ≤ n' ∧ c = ren (fun i => n + ids.idxOf i) r0 ∧ h' = hN h h0 n ids ∧ n' = n + ids.length) := by
    intro T hT1 hT2 hv hl2 hfl
    have := hx n0 (Nat.le_refl _) noR T w vs (relH_shown rh hT2) (fun _ _ _ => rfl) (hg.ext ⟨fun _ _ => rfl, fun b arr ty fz hb => ⟨arr, fz, hb, rfl⟩⟩ hT1) hl2 (fun i c v h1 h2 => .pv _ _ (hv i c v h1 h2))
    refine this.mono ?_
    rintro e w' ⟨v, c, h'', n'', ρ', S', rfl, g1, g2, g3, g4, g5, rfl, rfl, rfl⟩
    obtain ⟨S2, k1, k2, k3, k4⟩ := set_down (N := N) rh hfr hNN hT1 hT2 g1 g2 g3 hnd hr hl hfl
    exact ⟨v, _, _, _, _, S2, rfl, k1, k2, k3, k4, Nat.le_add_right _ _, rfl, rfl, rfl⟩
  by_cases hids : idsList as = []
  · have := viewL_same hus hids
    subst this
    refine main S (fun b h => h) (fun b h => .inl h) (fun i c v hc hv => avr_pvr (ha i c v hc hv) ?_) hlv (.inl fun b h => h)
    rw [List.eq_nil_iff_forall_not_mem]; intro id hid
    have := idsList_get hc hid
    rw [hids] at this; cases this
  · have hf : flat r1 = true ∧ bs.all flatB = true := by
      simp only [Bool.or_eq_true, List.isEmpty_iff, Bool.and_eq_true] at hcond
      exact hcond.resolve_left hids
    obtain ⟨k1, k2⟩ := viewL_rel rh 64 hlv ha hus
    refine main (S0 ρ S h) (fun b h => .inl h) (fun b h => h) (fun i c v hc hv => ?_) (k1.trans hlv) (.inr ⟨by rw [e1, flat_ren'] at hf; exact hf.1, fun id hid blk hb => ?_⟩)
    · have hi : i < as.length := by
        have := (List.getElem?_eq_some_iff.1 hc).1
        omega
      exact (k2 i _ c v (List.getElem?_eq_getElem hi) hc hv).1
    · have hlt := List.idxOf_lt_length_iff.2 hid
      have hb' := hbs _ hlt
      have hat : at0 ids (ids.idxOf id) = id := by
        simp only [at0, List.getD_eq_getElem?_getD, List.getElem?_eq_getElem hlt, Option.getD_some, List.getElem_idxOf]
      rw [hat, hb, Option.map_some] at hb'
      have := List.all_eq_true.1 hf.2 _ (List.mem_of_getElem? hb')
      rw [flatB_ren'] at this; exact this

/-! ### Meeting a contract by a run -/
theorem spOk_of_run (hmx : P.follows .mixedOrders = true) {K : CallK} (hK : KOk P G K) {F : Nat} {f : FuncId} {fi : FnInfo} (ho : FnOk P G f fi) {sp : Sp}
    (hrun : ∀ vs r bs, idsList vs = [] → sp vs = some (r, bs) → ∃ (r0 : AV) (h0 : AHeap) (n0 : Nat) (ids : List Nat), runFn K F fi vs noA 0 = some (r0, h0, n0) ∧ ids.Nodup ∧ (∀ id ∈ r0.ids, id ∈ ids) ∧
      (∀ id ∈ ids, ∃ blk, h0 id = some blk ∧ blk.ro = false ∧ ∀ j ∈ blkIds (some blk), j ∈ ids) ∧ r = ren (fun i => ids.idxOf i) r0 ∧ bs.map some = ids.map (fun id => (h0 id).map (renB fun i => ids.idxOf i))) : SpOk P G f sp := by
  intro vs r bs hi hsp
  obtain ⟨r0, h0, n0, ids, e, k⟩ := hrun vs r bs hi hsp
  obtain ⟨c, _, hx⟩ := runFn_sound hmx hK ho e
  exact ⟨c, r0, h0, n0, ids, hx, k⟩

/-- A value without names. -/
theorem spOk_val (hmx : P.follows .mixedOrders = true) {K : CallK} (hK : KOk P G K) {F : Nat} {f : FuncId} {fi : FnInfo} (ho : FnOk P G f fi) {sp : Sp}
    (hrun : ∀ vs r bs, sp vs = some (r, bs) → bs = [] ∧ r.ids = [] ∧ ∃ h0 n0, runFn K F fi vs noA 0 = some (r, h0, n0)) : SpOk P G f sp := by
  refine spOk_of_run (F := F) hmx hK ho fun vs r bs _ hsp => ?_
  obtain ⟨rfl, hr, h0, n0, e⟩ := hrun vs r bs hsp
  exact ⟨r, h0, n0, [], e, List.nodup_nil, (fun id hid => by rw [hr] at hid; cases hid), (fun id hid => by cases hid), (ids_nil_ren _ r hr).symm, rfl⟩
end

/-! ### Walking -/
section
variable {K : CallK} {F : Nat}

/-- A piece of code leads there. -/
def Wp (K : CallK) (F : Nat) (c : ACd) (Q : Exit → FS → Prop) (s : FS) : Prop := ∃ e s', evC K F c s = some (e, s') ∧ Q e s'

theorem Wp.mono {c : ACd} {Q Q' : Exit → FS → Prop} {s : FS} (h : Wp K F c Q s) (hq : ∀ e s', Q e s' → Q' e s') : Wp K F c Q' s := let ⟨e, s', h1, h2⟩ := h; ⟨e, s', h1, hq e s' h2⟩

def thenQ (R : FS → Prop) (Q : Exit → FS → Prop) : Exit → FS → Prop
  | .normal, s => R s
  | e, s => Q e s

theorem wp_skip' {Q : Exit → FS → Prop} {s : FS} (h : Q .normal s) : Wp K F .skip Q s := ⟨_, _, rfl, h⟩
theorem wp_exit' {Q : Exit → FS → Prop} {s : FS} {id : Nat} (h : Q (.exit id) s) : Wp K F (.exit id) Q s := ⟨_, _, rfl, h⟩
theorem wp_ret' {Q : Exit → FS → Prop} {s : FS} (h : Q .ret s) : Wp K F .ret Q s := ⟨_, _, rfl, h⟩
theorem wp_seq' {a b : ACd} {Q : Exit → FS → Prop} {s : FS} (h : Wp K F a (thenQ (Wp K F b Q) Q) s) : Wp K F (.seq a b) Q s := by
  obtain ⟨e, s1, h1, h2⟩ := h
  cases e with
  | normal =>
    obtain ⟨e, s2, h3, h4⟩ := h2
    exact ⟨e, s2, by simp only [evC, h1, h3], h4⟩
  | _ => exact ⟨_, s1, by simp only [evC, h1], h2⟩
theorem wp_cond' {c : AOpd} {a b : ACd} {Q : Exit → FS → Prop} {s : FS} (t : Bool) (hc : c.ev s.sl = .bool t) (h : Wp K F (bif t then a else b) Q s) : Wp K F (.cond c a b) Q s := by
  obtain ⟨e, s1, h1, h2⟩ := h
  refine ⟨e, s1, ?_, h2⟩
  simp only [evC, hc]
  cases t <;> simpa using h1
def blockQ (id : Nat) (Q : Exit → FS → Prop) : Exit → FS → Prop
  | .exit i, s => if i = id then Q .normal s else Q (.exit i) s
  | e, s => Q e s
theorem wp_block' {id : Nat} {a : ACd} {Q : Exit → FS → Prop} {s : FS} (h : Wp K F a (blockQ id Q) s) : Wp K F (.block id a) Q s := by
  obtain ⟨e, s1, h1, h2⟩ := h
  cases e with
  | exit i =>
    by_cases hi : i = id
    · subst hi
      exact ⟨.normal, s1, by simp only [evC, h1, if_true], by simpa [blockQ] using h2⟩
    · exact ⟨.exit i, s1, by simp only [evC, h1, if_neg hi], by simpa [blockQ, hi] using h2⟩
  | _ => exact ⟨_, s1, by simp only [evC, h1], h2⟩
theorem wp_ops_nil' {Q : Exit → FS → Prop} {s : FS} (h : Q .normal s) : Wp K F (.ops []) Q s := ⟨_, _, rfl, h⟩
theorem wp_ops' {o : AOper} {r : List AOper} {Q : Exit → FS → Prop} {s s1 : FS} (ho : evOp K o s = some s1) (h : Wp K F (.ops r) Q s1) : Wp K F (.ops (o :: r)) Q s := by
  obtain ⟨e, s2, h1, h2⟩ := h
  exact ⟨e, s2, by simp only [evC, evOps, ho] at h1 ⊢; exact h1, h2⟩

/-- A loop: what holds at the head of each round, with a measure below the purse. -/
theorem wp_loop' {a : ACd} {Q : Exit → FS → Prop} {s : FS} (I : Nat → FS → Prop) (k : Nat) (hk : k < F) (h0 : I k s)
    (round : ∀ k s, I k s → Wp K F a (thenQ (fun s' => ∃ k', k' < k ∧ I k' s') Q) s) : Wp K F (.loop a) Q s := by
  have key : ∀ (F' k : Nat) (s : FS), k < F' → I k s → ∃ e s', loopE (evC K F a) F' s = some (e, s') ∧ Q e s' := by
    intro F'
    induction F' with
    | zero => intro k s h; omega
    | succ F' ih =>
      intro k s hlt hI
      obtain ⟨e, s1, h1, h2⟩ := round k s hI
      cases e with
      | normal =>
        obtain ⟨k', hk', hI'⟩ := h2
        obtain ⟨e, s2, h3, h4⟩ := ih k' s1 (by omega) hI'
        exact ⟨e, s2, by simp only [loopE, h1, h3], h4⟩
      | _ => exact ⟨_, s1, by simp only [loopE, h1], h2⟩
  exact key F k s hk h0

/-- A function's run, by its code. -/
theorem run_of_wp {fi : FnInfo} {as : List AV} {h : AHeap} {n : Nat} {R : AV → AHeap → Nat → Prop} (hl : as.length ≤ fi.m)
    (hw : Wp K F fi.ac (fun e s => (e = .normal ∨ e = .ret) ∧ ∃ rs, fi.res.mapM (resRV s) = some rs ∧ R (tupOf rs) s.h s.n) { sl := argF as, h := h, n := n }) :
    ∃ r h' n', runFn K F fi as h n = some (r, h', n') ∧ R r h' n' := by
  obtain ⟨e, s, h1, h2, rs, h3, h4⟩ := hw
  refine ⟨tupOf rs, s.h, s.n, ?_, h4⟩
  unfold runFn
  rw [if_pos hl, h1]
  rcases h2 with rfl | rfl <;> simp [h3]

/-! Regions that draw. -/
def WpD (K : CallK) (l : List AOper) (ds : List DRec) (Q : FS → Prop) (s : FS) : Prop := ∃ x, evDrawn K l ds s = some x ∧ Q x.2
theorem wp_drawn' {l : List AOper} {Q : Exit → FS → Prop} {s : FS} (h : WpD K l [] (Q .normal) s) : Wp K F (.drawn l) Q s := by
  obtain ⟨x, h1, h2⟩ := h
  exact ⟨.normal, x.2, by simp only [evC, h1, Option.map_some], h2⟩
theorem wpD_nil {ds : List DRec} {Q : FS → Prop} {s : FS} (h : Q s) : WpD K [] ds Q s := ⟨(ds, s), rfl, h⟩
def chkD (o : AOper) (ds : List DRec) (d : DRec) : Bool := o.chk.all (fun i => match ds[i]? with
  | some x => !clash x d
  | none => false)
theorem wpD_cons {o : AOper} {r : List AOper} {ds : List DRec} {d : DRec} {Q : FS → Prop} {s : FS} (hd : evDOp K o s = some d) (hc : chkD o ds d = true) (h : WpD K r (ds ++ [d]) Q (stepD o d s)) : WpD K (o :: r) ds Q s := by
  obtain ⟨x, h1, h2⟩ := h
  refine ⟨x, ?_, h2⟩
  simp only [evDrawn, hd]
  exact (if_pos hc).trans h1
end
end Go.Fw.Sy
