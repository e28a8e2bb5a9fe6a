/- Contracts of calls; how code is walked in them. -/
import Derived.Test.YtepdflohpondbaaFwY2
set_option linter.unusedSimpArgs false
set_option linter.unusedVariables false
namespace Go.Fw.Sy

/-! ### What a call reads: values without names of blocks -/
mutual
def viewAV (h : AHeap) : Nat → AV → Option AV
  | 0, _ => none
  | f + 1, a => match a.ids with
    | [] => some a
    | _ => match a with
      | .sl id off len cap z => match h id with
        | some (.cells cs _) => if off + len * z ≤ cs.length ∧ z ≠ 0 then
            match viewL h f ((cs.drop off).take (len * z)) with
            | some vs => some (.vsl z (chunks z len vs) cap)
            | none => none
          else none
        | _ => none
      | .ptr id off => match h id with
        | some (.cells cs _) => match viewL h f (cs.drop off) with
            | some vs => some (.vptr vs)
            | none => none
        | _ => none
      | .agg cs => (viewL h f cs).map .agg
      | _ => none
def viewL (h : AHeap) : Nat → List AV → Option (List AV)
  | 0, _ => none
  | f + 1, l => match idsList l with
    | [] => some l
    | _ => match l with
      | [] => some []
      | a :: r => match viewAV h f a, viewL h f r with
        | some x, some y => some (x :: y)
        | _, _ => none
end

theorem viewL_nil (h : AHeap) (f : Nat) (l : List AV) (hl : idsList l = []) : viewL h (f + 1) l = some l := by
  rw [viewL.eq_def]; simp only [hl]

/-! ### Contracts -/
abbrev Sp := List AV → Option (AV × List Blk)

def hAdd (h : AHeap) (n : Nat) (bs : List Blk) : AHeap := fun id => bif inR n bs.length id then (bs[id - n]?).map (renB (n + ·)) else h id

/-- What a contract makes of a call, wherever it stands. -/
def pureK (sp : Sp) : List AV → AHeap → Nat → Option (AV × AHeap × Nat) := fun as h n =>
  match viewL h 64 as with
  | some vs => match sp vs with
    | some (r, bs) => if (idsList as).isEmpty || (flat r && bs.all flatB) then match bs with
        | [] => match r.ids with
          | [] => some (r, h, n)
          | _ => none
        | b :: bs => some (ren (n + ·) r, hAdd h n (b :: bs), n + (b :: bs).length)
      else none
    | none => none
  | none => none

/-- A function meets a contract, called with values without names. -/
def SpOk (P : Program) (G : Glob) (f : FuncId) (sp : Sp) : Prop := ∀ vs r bs, idsList vs = [] → sp vs = some (r, bs) →
  Callable P f ∧ ∃ (r0 : AV) (h0 : AHeap) (n0 : Nat) (ids : List Nat), (∀ N, n0 ≤ N → AFn P G f vs noA 0 N (fun c h' n' => c = r0 ∧ h' = h0 ∧ n' = n0)) ∧ ids.Nodup ∧ (∀ id ∈ r0.ids, id ∈ ids) ∧
    (∀ id ∈ ids, ∃ blk, h0 id = some blk ∧ blk.ro = false ∧ ∀ j ∈ blkIds (some blk), j ∈ ids) ∧ r = ren (fun i => ids.idxOf i) r0 ∧ bs.map some = ids.map (fun id => (h0 id).map (renB fun i => ids.idxOf i))

def addK (K : CallK) (f : FuncId) (k : List AV → AHeap → Nat → Option (AV × AHeap × Nat)) : CallK := fun g as h n => bif g == f then k as h n else K g as h n
def noK : CallK := fun _ _ _ _ => none

theorem noK_ok {P : Program} {G : Glob} : KOk P G noK := fun f as h n r h' n' he => by simp [noK] at he

theorem addK_ok {P : Program} {G : Glob} {K : CallK} {f : FuncId} {k : List AV → AHeap → Nat → Option (AV × AHeap × Nat)} (hK : KOk P G K)
    (hk : ∀ as h n r h' n', k as h n = some (r, h', n') → n ≤ n' → Callable P f ∧ ∀ N, n' ≤ N → AFn P G f as h n N (fun r' h'' n'' => r' = r ∧ h'' = h' ∧ n'' = n')) : KOk P G (addK K f k) := by
  intro g as h n r h' n' he hn
  unfold addK at he
  cases hg : g == f with
  | true =>
    rw [hg] at he
    have : g = f := by simpa using hg
    subst this
    exact hk as h n r h' n' he hn
  | false =>
    rw [hg] at he
    exact hK g as h n r h' n' he hn

/-! ### Renaming twice -/
mutual
theorem ren_comp (p q : Nat → Nat) : ∀ a, ren p (ren q a) = ren (fun i => p (q i)) a
  | .agg cs => by simp only [ren, renL_comp p q cs]
  | .tup cs => by simp only [ren, renL_comp p q cs]
  | .func f as bs => by simp only [ren, renL_comp p q as, renL_comp p q bs]
  | .iface t a => by simp only [ren, ren_comp p q a]
  | .undef | .bool _ | .int _ _ | .str _ | .nilptr | .ptr _ _ | .vptr _ | .sl .. | .vsl .. | .nilfunc | .nilmap | .map _ | .niliface => rfl
theorem renL_comp (p q : Nat → Nat) : ∀ l, renL p (renL q l) = renL (fun i => p (q i)) l
  | [] => rfl
  | a :: r => by simp only [renL, ren_comp p q a, renL_comp p q r]
end
theorem renB_comp (p q : Nat → Nat) (b : Blk) : renB p (renB q b) = renB (fun i => p (q i)) b := by
  cases b with
  | cells cs ro => simp only [renB, renL_comp]
  | map es c => simp only [renB, List.map_map, Blk.map.injEq, and_true]; exact List.map_congr_left fun e _ => by simp [ren_comp]

mutual
theorem ids_nil_ren (p : Nat → Nat) : ∀ a, a.ids = [] → ren p a = a
  | .agg cs, h => by simp only [ren]; rw [idsL_nil_ren p cs (by simpa [AV.ids] using h)]
  | .tup cs, h => by simp only [ren]; rw [idsL_nil_ren p cs (by simpa [AV.ids] using h)]
  | .func f as bs, h => by
    simp only [AV.ids, List.append_eq_nil_iff] at h
    simp only [ren]; rw [idsL_nil_ren p as h.1, idsL_nil_ren p bs h.2]
  | .iface t a, h => by simp only [ren]; rw [ids_nil_ren p a (by simpa [AV.ids] using h)]
  | .ptr _ _, h => by simp [AV.ids] at h
  | .sl .., h => by simp [AV.ids] at h
  | .map _, h => by simp [AV.ids] at h
  | .undef, _ | .bool _, _ | .int _ _, _ | .str _, _ | .nilptr, _ | .vptr _, _ | .vsl .., _ | .nilfunc, _ | .nilmap, _ | .niliface, _ => rfl
theorem idsL_nil_ren (p : Nat → Nat) : ∀ l, idsList l = [] → renL p l = l
  | [], _ => rfl
  | a :: r, h => by
    simp only [idsList, List.append_eq_nil_iff] at h
    simp only [renL]; rw [ids_nil_ren p a h.1, idsL_nil_ren p r h.2]
end

mutual
theorem ids_ren (p : Nat → Nat) : ∀ a, (ren p a).ids = a.ids.map p
  | .agg cs => by simp only [ren, AV.ids]; exact idsL_ren p cs
  | .tup cs => by simp only [ren, AV.ids]; exact idsL_ren p cs
  | .func f as bs => by simp only [ren, AV.ids, List.map_append]; rw [idsL_ren p as, idsL_ren p bs]
  | .iface t a => by simp only [ren, AV.ids]; exact ids_ren p a
  | .ptr _ _ => rfl
  | .sl .. => rfl
  | .map _ => rfl
  | .undef | .bool _ | .int _ _ | .str _ | .nilptr | .vptr _ | .vsl .. | .nilfunc | .nilmap | .niliface => rfl
theorem idsL_ren (p : Nat → Nat) : ∀ l, idsList (renL p l) = (idsList l).map p
  | [] => rfl
  | a :: r => by simp only [renL, idsList, List.map_append]; rw [ids_ren p a, idsL_ren p r]
end

mutual
theorem flat_ren' (p : Nat → Nat) : ∀ a, flat (ren p a) = flat a
  | .agg cs => by simp only [ren, flat]; exact flatL_ren' p cs
  | .tup cs => by simp only [ren, flat]; exact flatL_ren' p cs
  | .func f as bs => by simp only [ren, flat]; rw [flatL_ren' p as, flatL_ren' p bs]
  | .iface t a => by simp only [ren, flat]; exact flat_ren' p a
  | .undef | .bool _ | .int _ _ | .str _ | .nilptr | .ptr _ _ | .vptr _ | .sl .. | .vsl .. | .nilfunc | .nilmap | .map _ | .niliface => rfl
theorem flatL_ren' (p : Nat → Nat) : ∀ l, flatL (renL p l) = flatL l
  | [] => rfl
  | a :: r => by simp only [renL, flatL]; rw [flat_ren' p a, flatL_ren' p r]
end
theorem flatB_ren' (p : Nat → Nat) (b : Blk) : flatB (renB p b) = flatB b := by
  cases b with
  | cells cs ro => simp only [renB, flatB, flatL_ren']
  | map es c => simp [renB, flatB, List.all_map, Function.comp_def, flat_ren']
theorem ro_ren (p : Nat → Nat) (b : Blk) : (renB p b).ro = b.ro := by cases b <;> rfl

/-! ### What is read stands for what lies there -/
section
variable {ρ : Nat → Option (Nat × Nat)} {S : Nat → Prop} {h : AHeap} {w : World}

def S0 (ρ : Nat → Option (Nat × Nat)) (S : Nat → Prop) (h : AHeap) (b : Nat) : Prop := S b ∨ own ρ h b

theorem avr_S0 {a : AV} {v : Value} (hv : AVR ρ S w a v) : AVR ρ (S0 ρ S h) w a v :=
  hv.ext ⟨fun _ _ => rfl, fun b arr ty fz hb => ⟨arr, fz, hb, rfl⟩⟩ (fun b hb => .inl hb) fun _ _ h => h

theorem chunks_get (z : Nat) : ∀ (n : Nat) (cs : List AV) (i : Nat), i < n → (chunks z n cs)[i]? = some ((cs.drop (i * z)).take z)
  | 0, cs, i, h => by omega
  | n + 1, cs, 0, h => by simp [chunks]
  | n + 1, cs, i + 1, h => by
    simp only [chunks, List.getElem?_cons_succ]
    rw [chunks_get z n _ i (by omega), List.drop_drop]
    congr 3
    rw [Nat.add_mul, Nat.one_mul, Nat.add_comm]
theorem chunks_len (z : Nat) : ∀ (n : Nat) (cs : List AV), (chunks z n cs).length = n
  | 0, _ => rfl
  | n + 1, cs => by simp [chunks, chunks_len z n]

mutual
theorem viewAV_rel (r : RelH ρ S h w) : ∀ (f : Nat) {a x : AV} {v : Value}, AVR ρ S w a v → viewAV h f a = some x → PVR (S0 ρ S h) w x v ∧ x.isCell = a.isCell
  | 0, a, x, v, hv, hx => by simp [viewAV] at hx
  | f + 1, a, x, v, hv, hx => by
    rw [viewAV.eq_def] at hx; simp only at hx
    split at hx
    · rename_i hids
      injection hx with hx; subst hx
      exact ⟨avr_pvr (avr_S0 hv) hids, rfl⟩
    · split at hx
      · rename_i id off len cap z _
        split at hx
        · rename_i cs ro hh
          split at hx
          · rename_i hle
            split at hx
            · rename_i vs hvs
              injection hx with hx; subst hx
              obtain ⟨b, o, c, arr, ty, fz, rfl, e1, e2, e3, e4, e5, e6⟩ := avr_sl hv
              obtain ⟨b', o', arr', ty', fz', g1, g2, g3, g4, g5, g6⟩ := r.live id _ hh
              rw [e1] at g1; injection g1 with g1; injection g1 with g1 g1'; subst g1; subst g1'
              rw [e2] at g2; injection g2 with g2; injection g2 with g2; subst g2
              have hS : S0 ρ S h b := by
                cases ro with
                | true => exact .inl g6
                | false => exact .inr ⟨id, _, o, hh, rfl, e1⟩
              have hlen : ((cs.drop off).take (len * z)).length = len * z := by
                rw [List.length_take, List.length_drop]; omega
              obtain ⟨k1, k2⟩ := viewL_rel r f (l := (cs.drop off).take (len * z)) (xs := (List.range (len * z)).map fun i => (arr[o + off + i]?).getD Go.undef) (by simp [hlen]) (fun i c u hc hu => by
                  have hi : i < len * z := by
                    have := (List.getElem?_eq_some_iff.1 hc).1
                    rw [hlen] at this; exact this
                  rw [List.getElem?_take, if_pos hi, List.getElem?_drop] at hc
                  obtain ⟨_, u', q1, q2⟩ := g4 _ _ hc
                  rw [List.getElem?_map, List.getElem?_range hi] at hu
                  simp only [Option.map_some, Option.some.injEq] at hu
                  rw [← Nat.add_assoc] at q1
                  rw [q1] at hu
                  simp only [Option.getD_some] at hu
                  subst hu; exact q2) hvs
              rw [hlen] at k1
              have k3 : ∀ (i : Nat) (c : AV) (u : Value), vs[i]? = some c → ((List.range (len * z)).map fun i => (arr[o + off + i]?).getD Go.undef)[i]? = some u → PVR (S0 ρ S h) w c u ∧ c.isCell = true := fun i c u hc hu => by
                have hi : i < len * z := by
                  have := (List.getElem?_eq_some_iff.1 hc).1
                  rw [k1] at this; exact this
                have hg : ((cs.drop off).take (len * z))[i]? = some (((cs.drop off).take (len * z))[i]'(by rw [hlen]; exact hi)) := List.getElem?_eq_getElem _
                obtain ⟨q1, q2⟩ := k2 i _ c u hg hc hu
                refine ⟨q1, q2.trans ?_⟩
                rw [List.getElem?_take, if_pos hi, List.getElem?_drop] at hg
                exact (g4 _ _ hg).1
              refine ⟨.vsl z _ cap _ len c b (o + off) (fun i j => (arr[o + off + (i * z + j)]?).getD Go.undef) (chunks_len z len vs).symm (by simp [hle.2]) e3 (by rw [chunks_len]; exact e6) (fun _ => ⟨rfl, hS⟩) (fun i e he => ?_) (fun i e j y he hy => ?_) (fun i e j y he hy => ?_), rfl⟩
              · have hi : i < len := by
                  have := (List.getElem?_eq_some_iff.1 he).1
                  rw [chunks_len] at this; exact this
                rw [chunks_get z len vs i hi] at he
                injection he with he; subst he
                rw [List.length_take, List.length_drop, k1]
                have : (i + 1) * z ≤ len * z := Nat.mul_le_mul_right z hi
                rw [Nat.add_mul, Nat.one_mul] at this
                omega
              · have hi : i < len := by
                  have := (List.getElem?_eq_some_iff.1 he).1
                  rw [chunks_len] at this; exact this
                rw [chunks_get z len vs i hi] at he
                injection he with he; subst he
                have hj : j < z := by
                  have := (List.getElem?_eq_some_iff.1 hy).1
                  rw [List.length_take] at this; omega
                rw [List.getElem?_take, if_pos hj, List.getElem?_drop] at hy
                have hij : i * z + j < len * z := by
                  have : (i + 1) * z ≤ len * z := Nat.mul_le_mul_right z hi
                  rw [Nat.add_mul, Nat.one_mul] at this
                  omega
                have hu : ((List.range (len * z)).map fun i => (arr[o + off + i]?).getD Go.undef)[i * z + j]? = some ((arr[o + off + (i * z + j)]?).getD Go.undef) := by
                  rw [List.getElem?_map, List.getElem?_range hij]; rfl
                refine ⟨(k3 _ _ _ hy hu).2, ?_⟩
                rw [cell_of_heap e2, show o + off + i * z + j = o + off + (i * z + j) by omega]
                have : o + off + (i * z + j) < arr.size := by omega
                rw [Array.getElem?_eq_getElem this]; rfl
              · have hi : i < len := by
                  have := (List.getElem?_eq_some_iff.1 he).1
                  rw [chunks_len] at this; exact this
                rw [chunks_get z len vs i hi] at he
                injection he with he; subst he
                have hj : j < z := by
                  have := (List.getElem?_eq_some_iff.1 hy).1
                  rw [List.length_take] at this; omega
                rw [List.getElem?_take, if_pos hj, List.getElem?_drop] at hy
                have hij : i * z + j < len * z := by
                  have : (i + 1) * z ≤ len * z := Nat.mul_le_mul_right z hi
                  rw [Nat.add_mul, Nat.one_mul] at this
                  omega
                have hu : ((List.range (len * z)).map fun i => (arr[o + off + i]?).getD Go.undef)[i * z + j]? = some ((arr[o + off + (i * z + j)]?).getD Go.undef) := by
                  rw [List.getElem?_map, List.getElem?_range hij]; rfl
                exact (k3 _ _ _ hy hu).1
            · cases hx
          · cases hx
        · cases hx
      · rename_i id off _
        split at hx
        · rename_i cs ro hh
          split at hx
          · rename_i vs hvs
            injection hx with hx; subst hx
            obtain ⟨b, o, rfl, e1⟩ := avr_ptr hv
            obtain ⟨b', o', arr, ty, fz, g1, g2, g3, g4, g5, g6⟩ := r.live id _ hh
            rw [e1] at g1; injection g1 with g1; injection g1 with g1 g1'; subst g1; subst g1'
            have hS : S0 ρ S h b := by
              cases ro with
              | true => exact .inl g6
              | false => exact .inr ⟨id, _, o, hh, rfl, e1⟩
            obtain ⟨k1, k2⟩ := viewL_rel r f (l := cs.drop off) (xs := (List.range (cs.length - off)).map fun i => (arr[o + off + i]?).getD Go.undef) (by simp) (fun i c u hc hu => by
                have hi : i < cs.length - off := by
                  have := (List.getElem?_eq_some_iff.1 hc).1
                  rw [List.length_drop] at this; exact this
                rw [List.getElem?_drop] at hc
                obtain ⟨_, u', q1, q2⟩ := g4 _ _ hc
                rw [List.getElem?_map, List.getElem?_range hi] at hu
                simp only [Option.map_some, Option.some.injEq] at hu
                rw [← Nat.add_assoc] at q1
                rw [q1] at hu
                simp only [Option.getD_some] at hu
                subst hu; exact q2) hvs
            have hget : ∀ (i : Nat) (c : AV), vs[i]? = some c → i < cs.length - off ∧ ((List.range (cs.length - off)).map fun i => (arr[o + off + i]?).getD Go.undef)[i]? = some ((arr[o + off + i]?).getD Go.undef) := fun i c hc => by
              have hi : i < cs.length - off := by
                have := (List.getElem?_eq_some_iff.1 hc).1
                rw [k1] at this; simpa using this
              exact ⟨hi, by rw [List.getElem?_map, List.getElem?_range hi]; rfl⟩
            have k3 : ∀ (i : Nat) (c : AV), vs[i]? = some c → PVR (S0 ρ S h) w c ((arr[o + off + i]?).getD Go.undef) ∧ c.isCell = true := fun i c hc => by
              have hg : (cs.drop off)[i]? = some ((cs.drop off)[i]'(by rw [List.length_drop]; exact (hget i c hc).1)) := List.getElem?_eq_getElem _
              obtain ⟨q1, q2⟩ := k2 i _ c _ hg hc (hget i c hc).2
              refine ⟨q1, q2.trans ?_⟩
              rw [List.getElem?_drop] at hg
              exact (g4 _ _ hg).1
            refine ⟨.vptr vs b (o + off) (fun i => (arr[o + off + i]?).getD Go.undef) hS (fun i c hc => ?_) (fun i c hc => (k3 i c hc).1), rfl⟩
            refine ⟨(k3 i c hc).2, ?_⟩
            rw [cell_of_heap g2]
            have : o + off + i < arr.size := by have := (hget i c hc).1; omega
            rw [Array.getElem?_eq_getElem this]; rfl
          · cases hx
        · cases hx
      · rename_i cs _
        rw [Option.map_eq_some_iff] at hx
        obtain ⟨vs, hvs, rfl⟩ := hx
        obtain ⟨xs, rfl, e1, e2, e3⟩ := avr_agg hv
        obtain ⟨k1, k2⟩ := viewL_rel r f e1 e3 hvs
        have hg : ∀ (i : Nat) (c : AV), vs[i]? = some c → ∃ a u, cs[i]? = some a ∧ xs[i]? = some u := fun i c hc => by
          have hi := (List.getElem?_eq_some_iff.1 hc).1
          exact ⟨_, _, List.getElem?_eq_getElem (by omega), List.getElem?_eq_getElem (by omega)⟩
        refine ⟨.agg vs xs (by omega) (fun i c hc => ?_) (fun i c u hc hu => ?_), rfl⟩
        · obtain ⟨a, u, q1, q2⟩ := hg i c hc
          rw [(k2 i a c u q1 hc q2).2]; exact e2 i a q1
        · obtain ⟨a, _, q1, _⟩ := hg i c hc
          exact (k2 i a c u q1 hc hu).1
      · cases hx
theorem viewL_rel (r : RelH ρ S h w) : ∀ (f : Nat) {l vs : List AV} {xs : List Value}, l.length = xs.length → (∀ (i : Nat) (c : AV) (u : Value), l[i]? = some c → xs[i]? = some u → AVR ρ S w c u) → viewL h f l = some vs →
    vs.length = l.length ∧ ∀ (i : Nat) (a c : AV) (u : Value), l[i]? = some a → vs[i]? = some c → xs[i]? = some u → PVR (S0 ρ S h) w c u ∧ c.isCell = a.isCell
  | 0, l, vs, xs, _, _, hx => by simp [viewL] at hx
  | f + 1, l, vs, xs, hl, hv, hx => by
    rw [viewL.eq_def] at hx; simp only at hx
    split at hx
    · rename_i hids
      injection hx with hx; subst hx
      refine ⟨rfl, fun i a c u ha hi hu => ?_⟩
      rw [ha] at hi; injection hi with hi; subst hi
      refine ⟨avr_pvr (avr_S0 (hv i a u ha hu)) ?_, rfl⟩
      rw [List.eq_nil_iff_forall_not_mem]; intro id hid
      have := idsList_get ha hid
      rw [hids] at this; cases this
    · split at hx
      · injection hx with hx; subst hx
        exact ⟨rfl, fun i a c u hi => by simp at hi⟩
      · rename_i a t _
        split at hx
        · rename_i x y h1 h2
          injection hx with hx; subst hx
          match xs, hl, hv with
          | u0 :: xs, hl, hv =>
            obtain ⟨k1, k2⟩ := viewL_rel r f (l := t) (xs := xs) (by simpa using hl) (fun i c u hi hu => hv (i + 1) c u (by simpa using hi) (by simpa using hu)) h2
            obtain ⟨k3, k4⟩ := viewAV_rel r f (hv 0 a u0 rfl rfl) h1
            refine ⟨by simp [k1], fun i b c u hb hi hu => ?_⟩
            cases i with
            | zero =>
              simp at hb hi hu; subst hb; subst hi; subst hu
              exact ⟨k3, k4⟩
            | succ i => exact k2 i b c u (by simpa using hb) (by simpa using hi) (by simpa using hu)
        · cases hx
end
end
end Go.Fw.Sy
