/- copy, clear, make, strings and bytes, maps. -/
import Derived.Test.YtepdflohpondbaaFwI
import Derived.IntWalk
set_option linter.unusedSimpArgs false
set_option linter.unusedVariables false
namespace Go.Fw
section
variable {P : Program} {ρ : Nat → Option (Nat × Nat)} {S : Nat → Prop} {h : AHeap} {w : World} {n : Nat}

theorem snd_copy (r : RelH ρ S h w) {dT sT ty e : TypeId} {z id off len c : Nat} {cap : Option Nat} {x : AV} {u v : Value} {cs : List AV} {xs : List (List AV)} (hu : P.underlying dT = some (.slice e)) (hi : (P.info? e).isSome) (hsz : P.cellsOf e = z)
    (ha : AVR ρ S w (.sl id off len cap z) u) (hb : AVR ρ S w x v) (hx : srcOf h z x = some xs) (hh : h id = some (.cells cs false)) (hl : off + len * z ≤ cs.length) :
    ∃ w', (Builtin.copy_ #[dT, sT] ty #[u, v]).run P w = .ok (.int .i64 (Nat.min xs.length len : Nat)) w' ∧
      Good ρ S h w n (.int .i64 (Nat.min xs.length len : Nat)) w' (.int .i64 (Nat.min xs.length len : Nat)) [(id, some (.cells (splice cs off ((xs.take (Nat.min xs.length len)).flatten)) false))] := by
  obtain ⟨b, o, c, arr, ty', fz, rfl, g1, _⟩ := avr_sl ha
  obtain ⟨hz, ys, c0, f0, l0⟩ := snd_first (P := P) r hb hx (m := Nat.min xs.length len) (Nat.min_le_left _ _)
  have hlen := flatten_take_length hz (m := Nat.min xs.length len) (Nat.min_le_left _ _)
  have hm : Nat.min xs.length len * z ≤ len * z := Nat.mul_le_mul_right _ (Nat.min_le_right _ _)
  obtain ⟨w1, w2, w3⟩ := good_write (P := P) (off := off) r hh g1 c0 (by omega)
  refine ⟨_, ?_, ρ, S, .int _ _, w2, w3, fun _ _ => rfl⟩
  unfold Builtin.copy_
  simp only [List.getElem?_toArray, List.getElem?_cons_zero, List.getElem?_cons_succ, Sem.run_bind, run_underlying hu, Result.andThen_ok, run_sizeOf_cells (P := P) (w := w) hi, hsz, l0, f0, Sem.run_pure, w1, goInt]

theorem snd_copy_none (r : RelH ρ S h w) {dT sT ty e : TypeId} {z : Nat} {cap : Option Nat} {x : AV} {u v : Value} {xs : List (List AV)} {z' : Nat} (hu : P.underlying dT = some (.slice e)) (hi : (P.info? e).isSome) (hsz : P.cellsOf e = z)
    (ha : AVR ρ S w (.vsl z' [] cap) u) (hb : AVR ρ S w x v) (hx : srcOf h z x = some xs) :
    ∃ w', (Builtin.copy_ #[dT, sT] ty #[u, v]).run P w = .ok (.int .i64 (0 : Nat)) w' ∧ Good ρ S h w n (.int .i64 (0 : Nat)) w' (.int .i64 (0 : Nat)) [] := by
  obtain ⟨a0, c, b, o, rfl, _⟩ := avr_vsl ha
  obtain ⟨hz, ys, c0, f0, l0⟩ := snd_first (P := P) r hb hx (m := 0) (Nat.zero_le _)
  have hy : ys = [] := by
    have := c0.len
    simpa using this.symm
  subst hy
  refine ⟨w, ?_, Good.quiet r (.int _ _)⟩
  unfold Builtin.copy_
  simp only [List.getElem?_toArray, List.getElem?_cons_zero, List.getElem?_cons_succ, Sem.run_bind, run_underlying hu, Result.andThen_ok, run_sizeOf_cells (P := P) (w := w) hi, hsz, l0, f0, Sem.run_pure, goInt, List.length_nil]
  rw [show Nat.min xs.length 0 = 0 from Nat.min_zero _]
  simp only [f0, Result.andThen_ok, Sem.run_bind]
  cases a0 <;> simp [storeCells]

theorem snd_clear (r : RelH ρ S h w) {t ty e : TypeId} {z id off len : Nat} {cap : Option Nat} {u : Value} {cs zs : List AV} (hu : P.underlying t = some (.slice e)) (hz : zerosOf P e = some zs) (hzl : zs.length = z)
    (ha : AVR ρ S w (.sl id off len cap z) u) (hh : h id = some (.cells cs false)) (hl : off + len * z ≤ cs.length) :
    ∃ w', (Builtin.clear_ #[t] ty #[u]).run P w = .ok (.tuple #[]) w' ∧ Good ρ S h w n (.tuple #[]) w' (.tup []) [(id, some (.cells (splice cs off (List.replicate len zs).flatten) false))] := by
  obtain ⟨b, o, c, arr, ty', fz, rfl, g1, _⟩ := avr_sl ha
  obtain ⟨zv, h1, h2⟩ := zerosOf_run (P := P) (ρ := ρ) (S := S) (w := w) hz
  have c0 := h2.replicate len
  have hlen : (List.replicate len zs).flatten.length = len * z := by simp [hzl]
  obtain ⟨w1, w2, w3⟩ := good_write (P := P) (off := off) r hh g1 c0 (by omega)
  refine ⟨_, ?_, ρ, S, .pv _ _ (.tup [] [] rfl (fun i c x h => by simp at h)), w2, w3, fun _ _ => rfl⟩
  have hzc : (Builtin.zeroCells zv.cells len).toList = (List.replicate len zv.cells.toList).flatten := by
    have := zeros_eq zv.cells len
    unfold Builtin.zeroCells
    rw [this]
  unfold Builtin.clear_
  simp only [List.getElem?_toArray, List.getElem?_cons_zero, Sem.run_bind, run_underlying hu, Result.andThen_ok]
  cases len with
  | zero => simp [World.setCells]
  | succ len =>
    simp only [Sem.run_bind, h1, Result.andThen_ok, hzc, w1, Sem.run_pure]

theorem snd_clear_none (r : RelH ρ S h w) {t ty e : TypeId} {z : Nat} {cap : Option Nat} {u : Value} (hu : P.underlying t = some (.slice e)) (ha : AVR ρ S w (.vsl z [] cap) u) :
    (Builtin.clear_ #[t] ty #[u]).run P w = .ok (.tuple #[]) w := by
  obtain ⟨a0, c, b, o, rfl, _⟩ := avr_vsl ha
  unfold Builtin.clear_
  simp only [List.getElem?_toArray, List.getElem?_cons_zero, Sem.run_bind, run_underlying hu, Result.andThen_ok, List.length_nil]
  cases a0 <;> simp

theorem wrap64_id {m : Int} (h0 : 0 ≤ m) (h1 : m < 2 ^ 63) : IntKind.i64.wrap m = m := IntWalk.i64_in m (by omega)

theorem snd_mkSlice (r : RelH ρ S h w) (hn : ρ n = none) {t e : TypeId} {z bytes : Nat} {k k' : IntKind} {l c : Int} {zs : List AV} {i : TypeInfo} (hu : P.underlying t = some (.slice e)) (hi : P.info? e = some i) (hb : i.bytes = bytes) (hsz : i.size = z) (hz0 : z ≠ 0)
    (hz : zerosOf P e = some zs) (hzl : zs.length = z) (h0 : 0 ≤ l) (h1 : l ≤ c) (h2 : c * bytes ≤ 2 ^ 47) (h3 : c ≤ 2 ^ 47) :
    ∃ u w', (Instr.makeSlice t (.int k l) (.int k' c)).run P w = .ok u w' ∧ Good ρ S h w n u w' (.sl n 0 l.toNat (some c.toNat) z) [(n, some (.cells (List.replicate c.toNat zs).flatten false))] := by
  obtain ⟨zv, z1, z2⟩ := zerosOf_run (P := P) (ρ := ρ) (S := S) (w := w) hz
  have hzs : zv.cells.size = z := by have := z2.len; simp at this; omega
  have hg := good_newSl r hn (z2.replicate c.toNat) [] e l.toNat c.toNat z (some c.toNat) (fun k hk => by injection hk) (by simp [hzs]) (by omega)
  refine ⟨_, _, ?_, hg⟩
  have e1 : (asInt (.int k l)).run P w = .ok l w := by simp [asInt, asIntOf]
  have e2 : (asInt (.int k' c)).run P w = .ok c w := by simp [asInt, asIntOf]
  have ht : (typeInfo e).run P w = .ok i w := by simp [typeInfo, hi]
  have hs : (sizeOf e).run P w = .ok z w := by simp [sizeOf, typeInfo, hi, hsz]
  have w1 := wrap64_id h0 (show l < 2 ^ 63 by omega)
  have w2 := wrap64_id (m := c) (by omega) (by omega)
  have hcb : (bytes : Int) * c ≤ 2 ^ 47 := by rw [Int.mul_comm]; exact h2
  have hzc : (Array.range (c.toNat * z)).map (zv.cells[· % zv.cells.size]!) = ((List.replicate c.toNat zv.cells.toList).flatten).toArray := by
    have := zeros_eq zv.cells c.toNat
    rw [hzs] at this
    rw [← this, hzs]
  unfold Instr.makeSlice
  simp only [Sem.run_bind, run_underlying hu, Result.andThen_ok, e1, e2, ht, hb, w1, w2]
  have big : (2 : Int) ^ 47 ≤ 2 ^ 48 := by decide
  have cond : (((decide (c < 0) || decide ((bytes : Int) * c > 2 ^ 48)) || decide (l < 0)) || decide (l > c)) = false := by
    simp only [Bool.or_eq_false_iff, decide_eq_false_iff_not]
    omega
  rw [if_neg (by
    simp only [Bool.or_eq_true, decide_eq_true_eq]
    omega)]
  simp only [Sem.run_bind, run_askRoom, Result.andThen_ok, hs]
  by_cases hcz : c.toNat * z = 0
  · have hc0 : c.toNat = 0 := (Nat.mul_eq_zero.1 hcz).resolve_right hz0
    simp only [hc0, Nat.zero_mul, if_true, Sem.run_pure, Result.andThen_ok, newRow, Sem.run_bind, run_newObj, show Array.range 0 = #[] from rfl]
    simp
  · simp only [if_neg hcz, Sem.run_bind, z1, Result.andThen_ok, Sem.run_pure, hzc, newRow, run_newObj]
    simp

/-! ### Maps -/
theorem map_live (r : RelH ρ S h w) {id b : Nat} {es : List (AV × AV × Nat)} {clock : Nat} (hh : h id = some (.map es clock)) (hρ : ρ id = some (b, 0)) :
    ∃ ents : Array MapEntry, w.heap[b]? = some (.map ents clock) ∧ Ents ρ S w es ents.toList ∧ ents.size = es.length ∧ ¬ S b := by
  obtain ⟨b', ents, g1, g2, g3, g4, g5⟩ := r.live id _ hh
  rw [hρ] at g1; injection g1 with g1; injection g1 with g1 _; subst g1
  exact ⟨ents, g2, ⟨by simpa using g3, fun i k x n hi => by
    obtain ⟨m, e1, e2, e3, e4⟩ := g4 i k x n hi
    exact ⟨m, by simpa using e1, e2, e3, e4⟩⟩, g3, g5⟩

theorem run_getObj_map {b : Nat} {ents : Array MapEntry} {clock : Nat} (hb : w.heap[b]? = some (.map ents clock)) : (getObj b).run P w = .ok (.map ents clock) w := by
  simp [getObj, Sem.run, hb]
theorem run_setObj_map {b : Nat} {ents : Array MapEntry} {clock : Nat} (hb : w.heap[b]? = some (.map ents clock)) (o : Obj) : (setObj b o).run P w = .ok () { w with heap := w.heap.setIfInBounds b o } := by
  simp [setObj, Sem.run, hb]

theorem setObj_turned {b : Nat} {ents : Array MapEntry} {clock : Nat} (hb : w.heap[b]? = some (.map ents clock)) (es : Array MapEntry) (ck : Nat) : Turned w { w with heap := w.heap.setIfInBounds b (.map es ck) } b :=
  ⟨rfl, rfl, rfl, by simp, fun k hk => by simp [Array.getElem?_setIfInBounds_ne (Ne.symm hk)], fun arr ty fz hx => (by rw [hb] at hx; cases hx), fun x => by
    simp only [World.frozen?]
    by_cases e : x.block = b
    · have hlt : b < w.heap.size := (Array.getElem?_eq_some_iff.1 hb).1
      rw [e, hb]; simp [hlt]
    · rw [Array.getElem?_setIfInBounds_ne (Ne.symm e)]⟩

/-- A map of ours is another one. -/
theorem good_map (r : RelH ρ S h w) {id b : Nat} {es es' : List (AV × AV × Nat)} {clock clock' : Nat} {ents ents' : Array MapEntry} {a : AV} {u : Value} (hh : h id = some (.map es clock)) (hρ : ρ id = some (b, 0)) (hb : w.heap[b]? = some (.map ents clock)) (hS : ¬ S b)
    (he : Ents ρ S w es' ents'.toList) (ha : AVR ρ S w a u) :
    Good ρ S h w n u { w with heap := w.heap.setIfInBounds b (.map ents' clock') } a [(id, some (.map es' clock'))] := by
  have hlt : b < w.heap.size := (Array.getElem?_eq_some_iff.1 hb).1
  obtain ⟨w2, w3⟩ := r.put (blk := .map es' clock') hh rfl hρ (setObj_turned hb ents' clock') (fun hex => by
    refine ⟨b, ents', hρ, by simp [hlt], by simpa using he.1, fun i k x n hi => ?_, hS⟩
    obtain ⟨m, e1, e2, e3, e4⟩ := he.2 i k x n hi
    exact ⟨m, by simpa using e1, e2.ext hex (fun _ h => h) (fun _ _ h => h), e3.ext hex (fun _ h => h) (fun _ _ h => h), e4⟩)
  exact ⟨ρ, S, ha.adv r w3, w2, w3, fun _ _ => rfl⟩

theorem snd_mkMap (r : RelH ρ S h w) (hn : ρ n = none) : (newObj (.map #[] 0)).run P w = .ok w.heap.size (w.alloc (.map #[] 0)) ∧ Good ρ S h w n (.map (some w.heap.size)) (w.alloc (.map #[] 0)) (.map n) [(n, some (.map [] 0))] := by
  refine ⟨rfl, ?_⟩
  obtain ⟨r', d⟩ := r.new hn (.map #[] 0) (fun _ _ _ h => by cases h) (.map [] 0) ⟨w.heap.size, #[], by simp, heap_alloc_self _ _, rfl, fun i k x n hi => by simp at hi, fun hs => by have := r.bound _ hs; omega⟩
  exact ⟨_, S, .map n w.heap.size (by simp), r', d, fun id hid => upd_ne _ _ hid⟩

theorem run_checkKey {t : TypeId} {kt : KTy} {em : Bool} (ht : ktOf P t = some kt) {k : AV} {kv : Value} (hk : AVR ρ S w k kv) (hf : keyFits kt k = true) : (Instr.checkKey em 10000 t kv).run P w = .ok () w := by
  unfold ktOf at ht
  have agg : ∀ ks, flatK P 100 t = some ks → isAggT P t = true → kt = .agg ks → (Instr.checkKey em 10000 t kv).run P w = .ok () w := by
    rintro ks hfl ha rfl
    cases k <;> simp only [keyFits, Bool.false_eq_true] at hf
    obtain ⟨xs, rfl, a1, _⟩ := avr_agg hk
    have := chk_flat (P := P) em 9900 100 t ks hfl w xs (by simp at hf; omega)
    simpa only [mkV, ha, if_true] using this
  cases hu : P.underlying t with
  | none => simp [hu] at ht
  | some kd =>
    cases kd <;> simp only [hu, reduceCtorEq] at ht
    case int q => rw [show (10000 : Nat) = 9999 + 1 from rfl, Instr.checkKey]; simp [run_underlying hu]
    case string => rw [show (10000 : Nat) = 9999 + 1 from rfl, Instr.checkKey]; simp [run_underlying hu]
    case bool => rw [show (10000 : Nat) = 9999 + 1 from rfl, Instr.checkKey]; simp [run_underlying hu]
    case struct fs =>
      split at ht
      · rename_i ks hks
        split at ht
        · injection ht with ht; exact agg ks hks (by simp [isAggT, hu]) ht.symm
        · cases ht
      · cases ht
    case array m e =>
      split at ht
      · rename_i ks hks
        split at ht
        · injection ht with ht; exact agg ks hks (by simp [isAggT, hu]) ht.symm
        · cases ht
      · cases ht

theorem snd_lookup (r : RelH ρ S h w) {t kT eT : TypeId} {kt : KTy} {a k x : AV} {u kv : Value} {es : List (AV × AV × Nat)} {clock : Nat} {zs : AV} {zv : Value} {ok : Bool} {q : Option (Nat × AV × Nat)} (hu : P.underlying t = some (.map kT eT)) (ht : ktOf P kT = some kt)
    (ha : AVR ρ S w a u) (hk : AVR ρ S w k kv) (hfit : keyFits kt k = true) (hm : mapOf h a = some (es, clock)) (hf : Fw.findKey kt k es 0 = some q) (hz : (zeroValue eT).run P w = .ok zv w) (hzr : AVR ρ S w zs zv)
    (he : x = (match q with | some (_, v, _) => if ok then .tup [v, .bool true] else v | none => if ok then .tup [zs, .bool false] else zs)) :
    ∃ z, (Instr.lookup t u kv ok).run P w = .ok z w ∧ AVR ρ S w x z := by
  have key : ∃ ms : Array MapEntry, Ents ρ S w es ms.toList ∧ (u = .map none ∧ ms = #[] ∨ ∃ b, u = .map (some b) ∧ w.heap[b]? = some (.map ms clock)) := by
    cases a <;> simp only [mapOf, reduceCtorEq] at hm
    · injection hm with hm; injection hm with hm1 hm2; subst hm1
      refine ⟨#[], ⟨rfl, fun i k x n hi => by simp at hi⟩, .inl ⟨avr_nilmap ha, rfl⟩⟩
    · rename_i id
      obtain ⟨b, rfl, g1⟩ := avr_map ha
      split at hm
      · rename_i es' ck hh
        injection hm with hm; injection hm with hm1 hm2; subst hm1; subst hm2
        obtain ⟨ents, e1, e2, e3, e4⟩ := map_live r hh g1
        exact ⟨ents, e2, .inr ⟨b, rfl, e1⟩⟩
      · cases hm
  obtain ⟨ms, hE, hu'⟩ := key
  have hfd := snd_findKey ht hk hE hf
  have hck := run_checkKey (P := P) (em := ms.isEmpty) ht hk hfit
  have run : (Instr.lookup t u kv ok).run P w = ((Instr.checkKey ms.isEmpty 10000 kT kv).run P w).andThen fun _ w => ((Instr.findKey kT kv ms.toList).run P w).andThen fun r w => (match r with
      | some (_, v) => (pure (if ok then .tuple #[v, .bool true] else v) : Sem Value)
      | none => do let z ← zeroValue eT; pure (if ok then .tuple #[z, .bool false] else z)).run P w := by
    unfold Instr.lookup
    rcases hu' with ⟨rfl, rfl⟩ | ⟨b, rfl, hb⟩
    · simp only [Sem.run_bind, run_underlying hu, Result.andThen_ok, Sem.run_pure]
      congr 1
    · simp only [Sem.run_bind, run_underlying hu, Result.andThen_ok, run_getObj_map hb, Sem.run_pure]
      congr 1
  rw [run, hck]
  simp only [Result.andThen_ok]
  cases q with
  | none =>
    simp only [Found] at hfd
    rw [hfd]
    simp only [Result.andThen_ok, Sem.run_bind, hz, Sem.run_pure]
    refine ⟨_, rfl, ?_⟩
    rw [he]
    cases ok
    · exact hzr
    · refine .tup _ [zv, .bool false] rfl (fun i c x hc hx => ?_)
      match i with
      | 0 => simp at hc hx; subst hc; subst hx; exact hzr
      | 1 => simp at hc hx; subst hc; subst hx; exact .bool _
      | i + 2 => simp at hc
  | some q =>
    obtain ⟨j, v, b⟩ := q
    simp only [Found] at hfd
    obtain ⟨m, f1, f2, f3, f4, _⟩ := hfd
    rw [f4]
    simp only [Result.andThen_ok, Sem.run_pure]
    refine ⟨_, rfl, ?_⟩
    rw [he]
    cases ok
    · exact f2
    · refine .tup _ [m.val, .bool true] rfl (fun i c x hc hx => ?_)
      match i with
      | 0 => simp at hc hx; subst hc; subst hx; exact f2
      | 1 => simp at hc hx; subst hc; subst hx; exact .bool _
      | i + 2 => simp at hc

theorem Ents.set {es : List (AV × AV × Nat)} {ms : List MapEntry} (he : Ents ρ S w es ms) {i : Nat} {k x : AV} {b : Nat} {m : MapEntry} (h1 : AVR ρ S w k m.key) (h2 : AVR ρ S w x m.val) (h3 : m.born = b) : Ents ρ S w (es.set i (k, x, b)) (ms.set i m) := by
  refine ⟨by simpa using he.1, fun j k' x' n hj => ?_⟩
  rw [List.getElem?_set] at hj
  split at hj
  · rename_i e; subst e
    split at hj
    · rename_i hlt
      simp at hj
      obtain ⟨rfl, rfl, rfl⟩ := hj
      exact ⟨m, by rw [List.getElem?_set]; simp [he.1, hlt], h1, h2, h3⟩
    · cases hj
  · rename_i e
    obtain ⟨m', e1, e2, e3, e4⟩ := he.2 j k' x' n hj
    exact ⟨m', by rw [List.getElem?_set, if_neg e]; exact e1, e2, e3, e4⟩

theorem Ents.push {es : List (AV × AV × Nat)} {ms : List MapEntry} (he : Ents ρ S w es ms) {k x : AV} {b : Nat} {m : MapEntry} (h1 : AVR ρ S w k m.key) (h2 : AVR ρ S w x m.val) (h3 : m.born = b) : Ents ρ S w (es ++ [(k, x, b)]) (ms ++ [m]) := by
  refine ⟨by simp [he.1], fun j k' x' n hj => ?_⟩
  rw [List.getElem?_append] at hj
  rw [List.getElem?_append]
  split at hj
  · rename_i hlt
    rw [if_pos (by rw [he.1]; exact hlt)]
    exact he.2 j k' x' n hj
  · rename_i hlt
    rw [if_neg (by rw [he.1]; exact hlt), he.1]
    cases hq : j - es.length with
    | zero =>
      rw [hq] at hj
      simp at hj
      obtain ⟨rfl, rfl, rfl⟩ := hj
      exact ⟨m, by simp, h1, h2, h3⟩
    | succ q => rw [hq] at hj; simp at hj

/-- A key that is there already is the very key: nothing is left open. -/
theorem eqKey_same {kt : KTy} {a b : AV} {u v : Value} (ha : AVR ρ S w a u) (hb : AVR ρ S w b v) (he : eqKey kt a b = some true) : u = v := by
  have leaf : ∀ {l x y u v}, eqLeafV l u v = some true → (x : AV) = x → (y : AV) = y → u = v := by
    intro l x y u v h _ _
    cases l <;> cases u <;> cases v <;> simp only [eqLeafV, reduceCtorEq] at h
    · injection h with h; simp at h; rw [h]
    · split at h
      · rename_i hk; subst hk; injection h with h; simp at h; rw [h]
      · cases h
    · injection h with h
      have h := eq_of_beq h
      rw [ByteArray.toList_eq, ByteArray.toList_eq] at h
      congr 1
      exact ByteArray.ext (Array.ext' h)
  have cells : ∀ {ks xs ys}, eqCellsV ks xs ys = some true → xs = ys := by
    intro ks
    induction ks with
    | nil => intro xs ys h; cases xs <;> cases ys <;> simp [eqCellsV] at h; rfl
    | cons k ks ih =>
      intro xs ys h
      cases xs <;> cases ys <;> simp only [eqCellsV, reduceCtorEq] at h
      split at h
      · rename_i p q h1 h2
        injection h with h
        simp at h
        obtain ⟨rfl, rfl⟩ := h
        rw [leaf (x := .undef) (y := .undef) h1 rfl rfl, ih h2]
      · cases h
  have := eqKey_V ha hb he
  cases kt with
  | leaf l => exact leaf (x := .undef) (y := .undef) this rfl rfl
  | agg ks =>
    cases u <;> cases v <;> simp only [EqKeyV, reduceCtorEq] at this
    have := cells this
    congr 1
    exact Array.ext' this

theorem sameBits_leaf (m : Nat) {l : LK} {v : Value} (h : eqLeafV l v v = some true) : Instr.sameBits m v v = true := by
  cases l <;> cases v <;> simp only [eqLeafV, reduceCtorEq] at h <;> cases m <;> simp [Instr.sameBits, beq_toListBytes]
theorem sameBits_cells (m : Nat) : ∀ {ks : List LK} {xs : List Value}, eqCellsV ks xs xs = some true → (xs.zip xs).all (fun x => Instr.sameBits m x.1 x.2) = true
  | [], [], _ => rfl
  | [], _ :: _, h => by simp [eqCellsV] at h
  | _ :: _, [], h => by simp [eqCellsV] at h
  | k :: ks, x :: xs, h => by
    simp only [eqCellsV] at h
    split at h
    · rename_i p q h1 h2
      injection h with h
      simp at h
      obtain ⟨rfl, rfl⟩ := h
      simp only [List.zip_cons_cons, List.all_cons, sameBits_leaf m h1, Bool.true_and]
      exact sameBits_cells m h2
    · cases h
theorem run_keyThatStays {kt : KTy} {a b : AV} {u v : Value} (ha : AVR ρ S w a u) (hb : AVR ρ S w b v) (he : eqKey kt a b = some true) : (Instr.keyThatStays v u).run P w = .ok u w := by
  have hs := eqKey_same ha hb he
  subst hs
  have hE := eqKey_V ha hb he
  have : Instr.sameBits 10000 u u = true := by
    cases kt with
    | leaf l => exact sameBits_leaf _ hE
    | agg ks =>
      cases u <;> simp only [EqKeyV, reduceCtorEq] at hE
      rw [show (10000 : Nat) = 9999 + 1 from rfl]
      simp only [Instr.sameBits, BEq.rfl, Bool.true_and]
      exact sameBits_cells 9999 hE
  unfold Instr.keyThatStays
  rw [if_pos this]; rfl

theorem snd_mapUpdate (r : RelH ρ S h w) {t kT eT : TypeId} {kt : KTy} {id : Nat} {k x : AV} {u kv xv : Value} {es : List (AV × AV × Nat)} {clock : Nat} {q : Option (Nat × AV × Nat)} (hu : P.underlying t = some (.map kT eT)) (ht : ktOf P kT = some kt)
    (ha : AVR ρ S w (.map id) u) (hk : AVR ρ S w k kv) (hx : AVR ρ S w x xv) (hfit : keyFits kt k = true) (hm : h id = some (.map es clock)) (hf : Fw.findKey kt k es 0 = some q) :
    ∃ w', (Instr.mapUpdate t u kv xv).run P w = .ok () w' ∧ Good ρ S h w n Go.undef w' .undef [(id, some (match q with | some (i, _, b) => .map (es.set i (k, x, b)) clock | none => .map (es ++ [(k, x, clock)]) (clock + 1)))] := by
  obtain ⟨b, rfl, g1⟩ := avr_map ha
  obtain ⟨ents, e1, e2, e3, e4⟩ := map_live r hm g1
  have hfd := snd_findKey ht hk e2 hf
  have hck := run_checkKey (P := P) (em := false) ht hk hfit
  unfold Instr.mapUpdate
  simp only [Sem.run_bind, run_underlying hu, Result.andThen_ok, run_getObj_map e1, hck]
  cases q with
  | none =>
    simp only [Found] at hfd
    rw [hfd]
    simp only [Result.andThen_ok, run_setObj_map e1]
    exact ⟨_, rfl, good_map r hm g1 e1 e4 (by simpa using e2.push (m := { key := kv, val := xv, born := clock }) hk hx rfl) .undef⟩
  | some q =>
    obtain ⟨j, v, bb⟩ := q
    simp only [Found] at hfd
    obtain ⟨m, f1, f2, f3, f4, k', f5, f6⟩ := hfd
    rw [f4]
    obtain ⟨m', q1, q2, q3, q4⟩ := e2.2 j k' v bb f5
    rw [f1] at q1; injection q1 with q1; subst q1
    have hm' : ents[j]? = some m := by simpa using f1
    simp only [Result.andThen_ok, hm', Option.map_some, Option.getD_some, Sem.run_bind, run_keyThatStays hk q2 f6, run_setObj_map e1]
    refine ⟨_, rfl, ?_⟩
    have hmod : (ents.modify j fun e => { e with key := kv, val := xv }).toList = ents.toList.set j { m with key := kv, val := xv } := by
      apply List.ext_getElem?
      intro i
      rw [Array.getElem?_toList, Array.getElem?_modify, List.getElem?_set]
      by_cases hij : j = i
      · subst hij
        obtain ⟨hlt, hge⟩ := Array.getElem?_eq_some_iff.1 hm'
        simp [hlt, hge]
      · simp [hij]
    exact good_map r hm g1 e1 e4 (by rw [hmod]; exact e2.set (m := { m with key := kv, val := xv }) hk hx f3) .undef

theorem snd_mapEntry (r : RelH ρ S h w) {t kT eT : TypeId} {kt : KTy} {id : Nat} {k zs : AV} {u kv zv : Value} {es : List (AV × AV × Nat)} {clock : Nat} {q : Option (Nat × AV × Nat)} (hu : P.underlying t = some (.map kT eT)) (ht : ktOf P kT = some kt)
    (ha : AVR ρ S w (.map id) u) (hk : AVR ρ S w k kv) (hfit : keyFits kt k = true) (hz : (zeroValue eT).run P w = .ok zv w) (hzr : AVR ρ S w zs zv) (hm : h id = some (.map es clock)) (hf : Fw.findKey kt k es 0 = some q) :
    ∃ z w', (Instr.mapEntry t u kv).run P w = .ok z w' ∧ Good ρ S h w n z w' (match q with | some (_, v, b) => .tup [v, .int .i64 b] | none => .tup [zs, .int .i64 clock])
      [(id, some (match q with | some (i, v, b) => .map (es.set i (k, v, b)) clock | none => .map (es ++ [(k, zs, clock)]) (clock + 1)))] := by
  obtain ⟨b, rfl, g1⟩ := avr_map ha
  obtain ⟨ents, e1, e2, e3, e4⟩ := map_live r hm g1
  have hfd := snd_findKey ht hk e2 hf
  have hck := run_checkKey (P := P) (em := false) ht hk hfit
  have two : ∀ {a : AV} {v : Value} {m : Nat}, AVR ρ S w a v → AVR ρ S w (.tup [a, .int .i64 m]) (.tuple #[v, goInt m]) := by
    intro a v m hv
    refine .tup _ [v, .int .i64 m] rfl (fun i c x hc hx => ?_)
    match i with
    | 0 => simp at hc hx; subst hc; subst hx; exact hv
    | 1 => simp at hc hx; subst hc; subst hx; exact .int _ _
    | i + 2 => simp at hc
  unfold Instr.mapEntry
  simp only [Sem.run_bind, run_underlying hu, Result.andThen_ok, run_getObj_map e1, hck]
  cases q with
  | none =>
    simp only [Found] at hfd
    rw [hfd]
    simp only [Result.andThen_ok, Sem.run_bind, hz, run_setObj_map e1, Sem.run_pure]
    exact ⟨_, _, rfl, good_map r hm g1 e1 e4 (by simpa using e2.push (m := { key := kv, val := zv, born := clock }) hk hzr rfl) (two hzr)⟩
  | some q =>
    obtain ⟨j, v, bb⟩ := q
    simp only [Found] at hfd
    obtain ⟨m, f1, f2, f3, f4, k', f5, f6⟩ := hfd
    rw [f4]
    obtain ⟨m', q1, q2, q3, q4⟩ := e2.2 j k' v bb f5
    rw [f1] at q1; injection q1 with q1; subst q1
    have hm' : ents[j]? = some m := by simpa using f1
    simp only [Result.andThen_ok, hm', Option.map_some, Option.getD_some, Sem.run_bind, run_keyThatStays hk q2 f6, run_setObj_map e1, Sem.run_pure]
    refine ⟨_, _, rfl, ?_⟩
    have hmod : (ents.modify j fun e => { e with key := kv }).toList = ents.toList.set j { m with key := kv } := by
      apply List.ext_getElem?
      intro i
      rw [Array.getElem?_toList, Array.getElem?_modify, List.getElem?_set]
      by_cases hij : j = i
      · subst hij
        obtain ⟨hlt, hge⟩ := Array.getElem?_eq_some_iff.1 hm'
        simp [hlt, hge]
      · simp [hij]
    rw [f3]
    exact good_map r hm g1 e1 e4 (by rw [hmod]; exact e2.set (m := { m with key := kv }) hk f2 f3) (two f2)

theorem snd_entryStore (r : RelH ρ S h w) {t : TypeId} {id : Nat} {x : AV} {u xv : Value} {k : IntKind} {bb : Int} {es : List (AV × AV × Nat)} {clock i : Nat} {e : AV × AV × Nat}
    (ha : AVR ρ S w (.map id) u) (hx : AVR ρ S w x xv) (hm : h id = some (.map es clock)) (hf : es.findIdx? (fun e => (e.2.2 : Int) == bb) = some i) (he : es[i]? = some e) :
    ∃ w', (Instr.entryStore t u (.int k bb) xv).run P w = .ok () w' ∧ Good ρ S h w n Go.undef w' .undef [(id, some (.map (es.set i (e.1, x, e.2.2)) clock))] := by
  obtain ⟨b, rfl, g1⟩ := avr_map ha
  obtain ⟨ents, e1, e2, e3, e4⟩ := map_live r hm g1
  have hidx : ents.findIdx? (fun e => (e.born : Int) == bb) = some i := by
    rw [Array.findIdx?_eq_some_iff_getElem]
    rw [List.findIdx?_eq_some_iff_getElem] at hf
    obtain ⟨hlt, hp, hq⟩ := hf
    have hl := e2.1
    have born : ∀ j (hj : j < es.length), (ents.toList[j]'(by omega)).born = es[j].2.2 := by
      intro j hj
      obtain ⟨m, q1, _, _, q4⟩ := e2.2 j es[j].1 es[j].2.1 es[j].2.2 (by simp [hj])
      have hj' : j < ents.toList.length := by omega
      have q1' : ents.toList[j] = m := by
        have h2 := List.getElem?_eq_getElem hj'
        rw [h2] at q1; injection q1
      rw [q1']; exact q4
    refine ⟨by omega, ?_, fun j hj => ?_⟩
    · have := born i hlt
      simp only [Array.getElem_toList] at this
      rw [this]; exact hp
    · have := born j (by omega)
      simp only [Array.getElem_toList] at this
      rw [this]; exact hq j hj
  obtain ⟨m, q1, q2, q3, q4⟩ := e2.2 i e.1 e.2.1 e.2.2 he
  have hm' : ents[i]? = some m := by simpa using q1
  unfold Instr.entryStore
  simp only [Sem.run_bind, run_getObj_map e1, Result.andThen_ok, asInt, asIntOf, Sem.run_pure, hidx, run_setObj_map e1]
  refine ⟨_, rfl, ?_⟩
  have hmod : (ents.modify i fun e => { e with val := xv }).toList = ents.toList.set i { m with val := xv } := by
    apply List.ext_getElem?
    intro j
    rw [Array.getElem?_toList, Array.getElem?_modify, List.getElem?_set]
    by_cases hij : i = j
    · subst hij
      obtain ⟨hlt, hge⟩ := Array.getElem?_eq_some_iff.1 hm'
      simp [hlt, hge]
    · simp [hij]
  exact good_map r hm g1 e1 e4 (by rw [hmod]; exact e2.set (m := { m with val := xv }) q2 hx q4) .undef

/-! ### Strings and bytes -/
theorem run_push_bytes (f : Value → ByteArray → Sem (ForInStep ByteArray)) (hf : ∀ (m : Int) s, f (.int .u8 m) s = pure (ForInStep.yield (s.push (UInt8.ofNat m.toNat)))) : ∀ (xs : List Value) (bs : List UInt8) (s : ByteArray) (w : World), xs.length = bs.length →
    (∀ (i : Nat) x b, xs[i]? = some x → bs[i]? = some b → ∃ m, x = .int .u8 m ∧ UInt8.ofNat m.toNat = b) → (forIn xs s f : Sem ByteArray).run P w = .ok (ByteArray.mk (s.data ++ bs.toArray)) w
  | [], [], s, w, _, _ => by simp
  | [], _ :: _, _, _, h, _ => by simp at h
  | _ :: _, [], _, _, h, _ => by simp at h
  | x :: xs, b :: bs, s, w, h, hx => by
    obtain ⟨m, rfl, hb⟩ := hx 0 x b rfl rfl
    have ih := run_push_bytes f hf xs bs (s.push b) w (by simpa using h) (fun i x b h1 h2 => hx (i + 1) x b (by simpa using h1) (by simpa using h2))
    simp only [List.forIn_cons, hf, Sem.run_bind, Sem.run_pure, Result.andThen_ok, hb]
    rw [ih]
    congr 2
    simp [ByteArray.push]

theorem mapM_byteOf : ∀ {es : List (List AV)} {bs : List UInt8}, es.mapM byteOf = some bs → es.length = bs.length ∧ ∀ (i : Nat) e b, es[i]? = some e → bs[i]? = some b → byteOf e = some b
  | [], bs, h => by simp at h; subst h; exact ⟨rfl, fun i e b h => by simp at h⟩
  | e :: es, bs, h => by
    rw [List.mapM_cons] at h
    simp only [bind, Option.bind_eq_some_iff, pure, Option.some.injEq] at h
    obtain ⟨b, h1, bs', h2, rfl⟩ := h
    obtain ⟨i1, i2⟩ := mapM_byteOf h2
    refine ⟨by simp [i1], fun i e' b' he hb => ?_⟩
    cases i with
    | zero => simp at he hb; subst he; subst hb; exact h1
    | succ i => exact i2 i e' b' (by simpa using he) (by simpa using hb)

theorem snd_bytesStr (r : RelH ρ S h w) {src dst e : TypeId} {a : AV} {u : Value} {es : List (List AV)} {bs : List UInt8} (hs : P.underlying src = some (.slice e)) (hd : P.underlying dst = some .string) (he : P.underlying e = some (.int .u8))
    (ha : AVR ρ S w a u) (hx : srcOf h 1 a = some es) (hns : ∀ s, a ≠ .str s) (hb : es.mapM byteOf = some bs) : (convert src dst u).run P w = .ok (.string ⟨bs.toArray⟩) w := by
  obtain ⟨hz, xs, c0, f0, l0⟩ := snd_first (P := P) r ha hx (Nat.le_refl _)
  rw [List.take_length] at c0
  obtain ⟨m1, m2⟩ := mapM_byteOf hb
  have hfl : ∀ {es : List (List AV)}, (∀ e ∈ es, e.length = 1) → ∀ (i : Nat), es.flatten[i]? = (es[i]?).bind List.head? := by
    intro es
    induction es with
    | nil => intro _ i; simp
    | cons e es ih =>
      intro h i
      have h1 := h e (by simp)
      match e, h1 with
      | [x], _ =>
        cases i with
        | zero => simp
        | succ i => simpa using ih (fun e h' => h e (by simp [h'])) i
  have hlen : xs.length = bs.length := by
    rw [← c0.len, ← m1]
    have := flatten_take_length hz (Nat.le_refl es.length)
    rw [List.take_length] at this
    omega
  have hrel : ∀ (i : Nat) x b, xs[i]? = some x → bs[i]? = some b → ∃ m, x = .int .u8 m ∧ UInt8.ofNat m.toNat = b := by
    intro i x b h1 h2
    have hl : i < es.length := by rw [m1]; exact (List.getElem?_eq_some_iff.1 h2).1
    have he' : es[i]? = some es[i] := List.getElem?_eq_getElem hl
    have hbo := m2 i es[i] b he' h2
    have hfi := hfl hz i
    rw [he'] at hfi
    generalize es[i] = e' at *
    unfold byteOf at hbo
    split at hbo
    · rename_i m
      injection hbo with hbo
      simp at hfi
      exact ⟨m, avr_int (c0.rel i _ x hfi h1), hbo⟩
    · cases hbo
  have slice : ∃ a0 len c, u = .slice a0 len c ∧ len = es.length := by
    cases a with
    | str s => exact absurd rfl (hns s)
    | vsl z' es' cap =>
      obtain ⟨a0, c, b, o, rfl, _⟩ := avr_vsl ha
      simp only [srcOf] at hx
      split at hx
      · injection hx with hx; subst hx; exact ⟨_, _, _, rfl, rfl⟩
      · cases hx
    | sl id off len cap z' =>
      obtain ⟨b, o, c, arr, ty, fz, rfl, _⟩ := avr_sl ha
      simp only [srcOf, elemsOf] at hx
      (repeat' split at hx) <;> first | (cases hx; done) | (injection hx with hx; subst hx; exact ⟨_, _, _, rfl, by rw [chunks_length]⟩)
    | _ => simp [srcOf] at hx
  obtain ⟨a0, len, c, rfl, rfl⟩ := slice
  unfold convert
  simp only [Sem.run_bind, run_underlying hs, run_underlying hd, Result.andThen_ok, run_underlying he]
  unfold Conv.bytesToString
  cases a0 with
  | none =>
    simp only [Builtin.firstCells, Sem.run_pure] at f0
    injection f0 with f0
    have hx0 : xs = [] := by
      have := congrArg Array.toList f0
      simpa using this.symm
    have : bs = [] := by rw [hx0] at hlen; simpa using hlen.symm
    subst this
    rfl
  | some a0 =>
    have f0' : (loadCells a0 es.length).run P w = .ok xs.toArray w := by simpa [Builtin.firstCells] using f0
    simp only [Sem.run_bind, f0', Result.andThen_ok]
    rw [← Array.forIn_toList]
    simp only []
    rw [run_push_bytes (P := P) _ (fun _ _ => rfl) xs bs ByteArray.empty w hlen hrel]
    simp only [Result.andThen_ok, Sem.run_pure]
    have h0 : ByteArray.empty.data = #[] := rfl
    rw [h0]
    simp
end
end Go.Fw
