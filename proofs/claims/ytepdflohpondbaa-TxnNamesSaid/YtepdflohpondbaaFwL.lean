/- Every operation is sound. -/
import Derived.Test.YtepdflohpondbaaFwK
set_option linter.unusedSimpArgs false
set_option linter.unusedVariables false
namespace Go.Fw
section
variable {P : Program} {ρ : Nat → Option (Nat × Nat)} {S : Nat → Prop} {h : AHeap} {w : World} {n : Nat} {G : Glob} {sl : Nat → AV} {ev : Operand → Value}

theorem bnd_of (he : Evs G ρ S w sl ev) {x : Option Operand} {y : Option AOpd} (hx : opdO G x = some y) : Bnd ρ S w sl y (x.map ev) := by
  cases x with
  | none => simp [opdO] at hx; subst hx; simp [Bnd]
  | some x =>
    simp only [opdO, Option.map_eq_some_iff] at hx
    obtain ⟨z, hz, rfl⟩ := hx
    simpa [Bnd] using he x z hz

theorem opdO_none {x : Option Operand} {y : Option AOpd} (hx : opdO G x = some y) : y = none ↔ x = none := by
  cases x with
  | none => simp [opdO] at hx; subst hx; simp
  | some x =>
    simp only [opdO, Option.map_eq_some_iff] at hx
    obtain ⟨z, hz, rfl⟩ := hx
    simp

theorem zeroAV_run {t : TypeId} {z : AV} (hz : zeroAV P t = some z) : ∃ zv, (zeroValue t).run P w = .ok zv w ∧ AVR ρ S w z zv := by
  unfold zeroAV at hz
  cases hi : P.info? t with
  | none => simp [hi] at hz
  | some i =>
    simp only [hi] at hz
    cases hzz : i.zero with
    | none => simp [hzz] at hz
    | some v =>
      refine ⟨v, by simp [zeroValue, typeInfo, hi, hzz], ?_⟩
      rw [hzz] at hz
      split at hz
      · rename_i cs hq
        injection hq with hq; subst hq
        simp only [Option.map_eq_some_iff] at hz
        obtain ⟨as, h1, rfl⟩ := hz
        have := (constAVs_rel (ρ := ρ) (S := S) (w := w) h1).agg
        simpa using this
      · rename_i v' _ hq
        injection hq with hq; subst hq
        exact .pv _ _ (constAV_rel hz).1
      · cases hz

theorem snd_conv (r : RelH ρ S h w) {src dst : TypeId} {c : Cv} {a x : AV} {u : Value} (hcv : cvOf P src dst = some c) (ha : AVR ρ S w a u) (hx : convOf h c a = some x) : ∃ z, (convert src dst u).run P w = .ok z w ∧ AVR ρ S w x z := by
  unfold cvOf at hcv
  split at hcv
  · rename_i k0 k hs hd
    injection hcv with hcv; subst hcv
    cases a <;> simp only [convOf, reduceCtorEq] at hx
    injection hx with hx; subst hx
    rw [avr_int ha]
    exact ⟨_, snd_convInt (by simp [hs]) hd, .int _ _⟩
  · rename_i hs hd
    injection hcv with hcv; subst hcv
    cases a <;> simp only [convOf, reduceCtorEq] at hx
    injection hx with hx; subst hx
    rw [avr_str ha]
    exact ⟨_, snd_convStr hs hd, .str _⟩
  · rename_i e hs hd
    split at hcv
    · rename_i he
      injection hcv with hcv; subst hcv
      simp only [convOf] at hx
      split at hx
      · rename_i es hes
        simp only [Option.map_eq_some_iff] at hx
        obtain ⟨bs, hbs, rfl⟩ := hx
        have hns : ∀ s, a ≠ .str s := by rintro s rfl; simp [bytesSrc] at hes
        have hes' : srcOf h 1 a = some es := by
          unfold bytesSrc at hes
          split at hes
          · cases hes
          · exact hes
        exact ⟨_, snd_bytesStr r hs hd he ha hes' hns hbs, .str _⟩
      · cases hx
    · cases hcv
  · cases hcv

theorem snd_len (r : RelH ρ S h w) {t ty : TypeId} {a x : AV} {u : Value} {d : TypeDesc} (hu : P.underlying t = some d) (hd : (∃ e, d = .slice e) ∨ d = .string ∨ ∃ k e, d = .map k e) (hk : lenIs (lenK d) a = true) (ha : AVR ρ S w a u) (hx : Fw.lenOf h a = some x) :
    ∃ z, (Builtin.len_ #[t] ty #[u]).run P w = .ok z w ∧ AVR ρ S w x z := by
  rcases hd with ⟨e, rfl⟩ | rfl | ⟨k, e, rfl⟩
  · cases a <;> simp only [lenIs, lenK, reduceCtorEq, Bool.false_eq_true] at hk
    case sl id off len cap z =>
      injection hx with hx; subst hx
      exact ⟨_, snd_len_slice (P := P) hu (.inl ⟨e, rfl⟩) ha (.inr (.inl ⟨id, off, cap, z, rfl, e, rfl⟩)), .pv _ _ (.int _ _)⟩
    case vsl z es cap =>
      injection hx with hx; subst hx
      exact ⟨_, snd_len_slice (P := P) hu (.inl ⟨e, rfl⟩) ha (.inl ⟨z, es, cap, rfl, rfl, e, rfl⟩), .pv _ _ (.int _ _)⟩
  · cases a <;> simp only [lenIs, lenK, reduceCtorEq, Bool.false_eq_true] at hk
    case str s =>
      injection hx with hx; subst hx
      exact ⟨_, snd_len_slice (P := P) hu (.inr rfl) ha (.inr (.inr ⟨s, rfl, rfl, rfl⟩)), .pv _ _ (.int _ _)⟩
  · cases a <;> simp only [lenIs, lenK, reduceCtorEq, Bool.false_eq_true] at hk
    case nilmap =>
      injection hx with hx; subst hx
      refine ⟨.int .i64 0, ?_, .pv _ _ (.int _ _)⟩
      cases ha with | pv _ _ hp => cases hp; simp [Builtin.len_, run_underlying hu, goInt]
    case map id =>
      simp only [Fw.lenOf] at hx
      split at hx
      · rename_i es ck hh
        injection hx with hx; subst hx
        obtain ⟨b, rfl, hb⟩ := avr_map ha
        obtain ⟨b', ents, e1, e2, e3, _⟩ := r.live id _ hh
        rw [hb] at e1; injection e1 with e1; injection e1 with e1 _; subst e1
        refine ⟨.int .i64 (es.length : Nat), ?_, .pv _ _ (.int _ _)⟩
        simp [Builtin.len_, run_underlying hu, goInt, MapKept.run_getObj_map e2, e3]
      · cases hx

theorem appT_of {sT xT : TypeId} {z bytes : Nat} (hh : appT? P sT xT = some (z, bytes)) : ∃ e, AppT P sT xT e z bytes := by
  unfold appT? at hh
  split at hh
  · rename_i e d hu hux
    have key : (∀ k, d ≠ .int k) ∧ (match P.info? e with
      | some i => match i.zero with
        | some z => if z.cells.size = i.size ∧ i.size ≠ 0 ∧ i.bytes ≠ 0 then some (i.size, i.bytes) else none
        | none => none
      | none => none) = some (z, bytes) := by
      cases d <;> simp only [reduceCtorEq] at hh <;> exact ⟨by simp, hh⟩
    obtain ⟨hd, hh⟩ := key
    split at hh
    · rename_i i hi
      split at hh
      · rename_i zv hz
        split at hh
        · rename_i hb
          injection hh with hh; injection hh with h1 h2
          refine ⟨e, hu, ⟨d, hux, hd⟩, ⟨i, zv, hi, h1, h2, hz, by rw [hb.1, h1]⟩, by rw [← h1]; exact hb.2.1, by rw [← h2]; exact hb.2.2⟩
        · cases hh
      · cases hh
    · cases hh
  · cases hh

theorem sliceT_of {t : TypeId} {z : Nat} (hh : sliceT? P t = some z) : ∃ e, P.underlying t = some (.slice e) ∧ (P.info? e).isSome ∧ P.cellsOf e = z ∧ elemOf? P t = some e := by
  unfold sliceT? at hh
  split at hh
  · rename_i e hu
    split at hh
    · rename_i i hi
      split at hh
      · injection hh with hh
        exact ⟨e, hu, by simp [hi], by simp [Program.cellsOf, hi, hh], by simp [elemOf?, hu]⟩
      · cases hh
    · cases hh
  · cases hh

theorem snd_builtin (r : RelH ρ S h w) (hn : ρ n = none) (he : Evs G ρ S w sl ev) {b : Builtin} {args : Array Operand} {ts : Array TypeId} {type : TypeId} {consts : Array Bool} {op : AOp} {a : AV} {U : List (Nat × Option Blk)}
    (hc : compBuiltin P G b args.toList ts.toList = some op) (hr : runOp op sl h n = some (a, U)) : OpOk P ρ S h w n ((builtin b ts type consts (args.map ev)).run P w) a U := by
  obtain ⟨args⟩ := args
  obtain ⟨ts⟩ := ts
  simp only [List.map_toArray] at hc ⊢
  unfold compBuiltin at hc
  split at hc
  · -- len
    rename_i x t
    have key : (∃ d y, P.underlying t = some d ∧ ((∃ e, d = .slice e) ∨ d = .string ∨ ∃ k e, d = .map k e) ∧ opdOf G x = some y ∧ op = .len (lenK d) y) ∨
        (∃ m, op = .lenConst m ∧ ((∃ e, P.underlying t = some (.array m e)) ∨ ∃ a e, P.underlying t = some (.pointer a) ∧ P.underlying a = some (.array m e))) := by
      split at hc
      · rename_i e hu
        simp only [Option.map_eq_some_iff] at hc
        obtain ⟨y, hy, rfl⟩ := hc
        exact .inl ⟨_, y, hu, .inl ⟨e, rfl⟩, hy, rfl⟩
      · rename_i hu
        simp only [Option.map_eq_some_iff] at hc
        obtain ⟨y, hy, rfl⟩ := hc
        exact .inl ⟨_, y, hu, .inr (.inl rfl), hy, rfl⟩
      · rename_i k e hu
        simp only [Option.map_eq_some_iff] at hc
        obtain ⟨y, hy, rfl⟩ := hc
        exact .inl ⟨_, y, hu, .inr (.inr ⟨k, e, rfl⟩), hy, rfl⟩
      · rename_i m e hu
        injection hc with hc; subst hc
        exact .inr ⟨m, rfl, .inl ⟨e, hu⟩⟩
      · rename_i a hu
        split at hc
        · rename_i m e hu2
          injection hc with hc; subst hc
          exact .inr ⟨m, rfl, .inr ⟨a, e, hu, hu2⟩⟩
        · cases hc
      · cases hc
    rcases key with ⟨d, y, hu, hd, hy, rfl⟩ | ⟨m, rfl, hm⟩
    · simp only [runOp] at hr
      split at hr
      · rename_i hk
        simp only [Option.map_eq_some_iff, Prod.mk.injEq] at hr
        obtain ⟨q, hq, rfl, rfl⟩ := hr
        have hfit : lenIs (lenK d) (y.ev sl) = true := hk
        exact OpOk.quiet r (snd_len (ty := type) r hu hd hfit (he x y hy) hq)
      · cases hr
    · simp only [runOp, Option.some.injEq, Prod.mk.injEq] at hr
      obtain ⟨rfl, rfl⟩ := hr
      have : (Builtin.len_ #[t] type #[ev x]).run P w = .ok (.int .i64 m) w := by
        rcases hm with ⟨e, hu⟩ | ⟨a, e, hu, hu2⟩
        · simp [Builtin.len_, run_underlying hu, goInt]
        · simp [Builtin.len_, run_underlying hu, run_underlying hu2, goInt]
      exact OpOk.quiet r ⟨_, this, .int _ _⟩
  · -- cap
    rename_i x t
    split at hc
    · rename_i e hu
      simp only [Option.map_eq_some_iff] at hc
      obtain ⟨y, hy, rfl⟩ := hc
      have hv := he x y hy
      simp only [runOp] at hr
      have key : ∃ q : Nat, a = .int .i64 q ∧ U = [] ∧ ∃ b l, ev x = .slice b l q := by
        split at hr
        · rename_i z es c hq
          simp only [Option.some.injEq, Prod.mk.injEq] at hr
          rw [hq] at hv
          obtain ⟨a0, c', b, o, e1, e2, _⟩ := avr_vsl hv
          exact ⟨c, hr.1.symm, hr.2.symm, a0, es.length, by rw [e1, e2 c rfl]⟩
        · rename_i id off len c z hq
          simp only [Option.some.injEq, Prod.mk.injEq] at hr
          rw [hq] at hv
          obtain ⟨b, o, c', arr, ty, fz, e1, _, _, e2, _⟩ := avr_sl hv
          exact ⟨c, hr.1.symm, hr.2.symm, _, len, by rw [e1, e2 c rfl]⟩
        · cases hr
      obtain ⟨q, rfl, rfl, b, l, hev⟩ := key
      have : (Builtin.cap_ #[t] type #[ev x]).run P w = .ok (.int .i64 q) w := by
        simp [Builtin.cap_, run_underlying hu, goInt, hev]
      exact OpOk.quiet r ⟨_, this, .int _ _⟩
    · cases hc
  · -- append
    rename_i s x sT xT
    split at hc
    · rename_i z bytes s' x' h1 h2 h3
      injection hc with hc; subst hc
      simp only [runOp] at hr
      split at hr
      · rename_i xs hxs
        obtain ⟨e, T⟩ := appT_of h1
        exact OpOk.value (snd_append (ty := type) r hn T (he s s' h2) (he x x' h3) hxs hr)
      · cases hr
    · cases hc
  · -- copy
    rename_i d s dT sT
    split at hc
    · rename_i z d' s' h1 h2 h3
      injection hc with hc; subst hc
      obtain ⟨e, hu, hi, hz, _⟩ := sliceT_of h1
      have hv := he d d' h2
      simp only [runOp] at hr
      split at hr
      · rename_i id off len cap z' xs hq hxs
        split at hr
        · rename_i cs hh
          split at hr
          · rename_i hb
            obtain ⟨hb1, hb2⟩ := hb
            subst hb1
            simp only [Option.some.injEq, Prod.mk.injEq] at hr
            obtain ⟨rfl, rfl⟩ := hr
            rw [hq] at hv
            obtain ⟨w', h4, h5⟩ := snd_copy (P := P) (sT := sT) (ty := type) (n := n) (c := 0) r hu hi hz hv (he s s' h3) hxs hh hb2
            exact OpOk.value ⟨_, w', h4, h5⟩
          · cases hr
        · cases hr
      · rename_i z' cap xs hq hxs
        simp only [Option.some.injEq, Prod.mk.injEq] at hr
        obtain ⟨rfl, rfl⟩ := hr
        rw [hq] at hv
        obtain ⟨w', h4, h5⟩ := snd_copy_none (P := P) (sT := sT) (ty := type) (n := n) r hu hi hz hv (he s s' h3) hxs
        exact OpOk.value ⟨_, w', h4, h5⟩
      · cases hr
    · cases hc
  · -- clear
    rename_i x t
    split at hc
    · rename_i z zs x' h1 h2 h3
      split at hc
      · rename_i hzl
        injection hc with hc; subst hc
        obtain ⟨e, hu, hi, hz, hel⟩ := sliceT_of h1
        rw [hel] at h2
        simp only [Option.bind_some] at h2
        have hv := he x x' h3
        simp only [runOp] at hr
        split at hr
        · rename_i id off len cap z' hq
          split at hr
          · rename_i cs hh
            split at hr
            · rename_i hb
              obtain ⟨hb1, hb2⟩ := hb
              subst hb1
              simp only [Option.some.injEq, Prod.mk.injEq] at hr
              obtain ⟨rfl, rfl⟩ := hr
              rw [hq] at hv
              obtain ⟨w', h4, ρ', S', g1, g2⟩ := snd_clear (P := P) (ty := type) (n := n) r hu h2 hzl hv hh hb2
              exact OpOk.value ⟨_, w', h4, ρ', S', g1, g2⟩
            · cases hr
          · cases hr
        · rename_i z' cap hq
          simp only [Option.some.injEq, Prod.mk.injEq] at hr
          obtain ⟨rfl, rfl⟩ := hr
          rw [hq] at hv
          have h4 := snd_clear_none (P := P) (ty := type) r hu hv
          exact OpOk.quiet r ⟨_, h4, .pv _ _ (.tup [] [] rfl (fun i c x h => by simp at h))⟩
        · cases hr
      · cases hc
    · cases hc
  · simp only [Option.map_eq_some_iff] at hc
    obtain ⟨ys, hys, rfl⟩ := hc
    simp only [runOp] at hr
    obtain ⟨i1, i2⟩ := he.list hys
    split at hr
    · cases hr
    · rename_i k m q hq
      simp only [Option.map_eq_some_iff, Prod.mk.injEq] at hr
      obtain ⟨x, hx, rfl, rfl⟩ := hr
      rw [hq] at i1 i2
      cases args with
      | nil => simp at i1
      | cons y ys =>
        have e0 := avr_int (i2 0 _ _ rfl rfl)
        obtain ⟨z, h1, h2⟩ := snd_foldMinMax (P := P) (isMax := false) (k := k) (m := m) (as := q) (us := ys.map ev) (by simpa using i1) (fun i c v hc hv => i2 (i + 1) c v (by simpa using hc) (by simpa using hv)) hx
        refine OpOk.quiet r ⟨z, ?_, h2⟩
        simpa [Builtin.min_, e0] using h1
    · cases hr
  · simp only [Option.map_eq_some_iff] at hc
    obtain ⟨ys, hys, rfl⟩ := hc
    simp only [runOp] at hr
    obtain ⟨i1, i2⟩ := he.list hys
    split at hr
    · cases hr
    · rename_i k m q hq
      simp only [Option.map_eq_some_iff, Prod.mk.injEq] at hr
      obtain ⟨x, hx, rfl, rfl⟩ := hr
      rw [hq] at i1 i2
      cases args with
      | nil => simp at i1
      | cons y ys =>
        have e0 := avr_int (i2 0 _ _ rfl rfl)
        obtain ⟨z, h1, h2⟩ := snd_foldMinMax (P := P) (isMax := true) (k := k) (m := m) (as := q) (us := ys.map ev) (by simpa using i1) (fun i c v hc hv => i2 (i + 1) c v (by simpa using hc) (by simpa using hv)) hx
        refine OpOk.quiet r ⟨z, ?_, h2⟩
        simpa [Builtin.max_, e0] using h1
    · cases hr
  · cases hc

theorem snd_op (r : RelH ρ S h w) (hn : ρ n = none) (he : Evs G ρ S w sl ev) {o : Oper} {op : AOp} {a : AV} {U : List (Nat × Option Blk)} (hc : compOp P G o = some op) (hr : runOp op sl h n = some (a, U)) :
    OpOk P ρ S h w n ((execOp ev o).run P w) a U := by
  obtain ⟨dst, o, type, pos, after, guard⟩ := o
  unfold execOp
  cases o <;> simp only [compOp] at hc <;> simp only
  case move x =>
    simp only [Option.map_eq_some_iff] at hc
    obtain ⟨y, hy, rfl⟩ := hc
    simp only [runOp, Option.some.injEq, Prod.mk.injEq] at hr
    obtain ⟨rfl, rfl⟩ := hr
    exact ⟨_, w, .inl rfl, Good.quiet r (he x y hy)⟩
  case assign x =>
    simp only [Option.map_eq_some_iff] at hc
    obtain ⟨y, hy, rfl⟩ := hc
    simp only [runOp, Option.some.injEq, Prod.mk.injEq] at hr
    obtain ⟨rfl, rfl⟩ := hr
    exact ⟨_, w, .inl rfl, Good.quiet r (he x y hy)⟩
  case pick c x y =>
    split at hc
    · rename_i c' x' y' h1 h2 h3
      injection hc with hc; subst hc
      simp only [runOp] at hr
      split at hr
      · rename_i t ht
        simp only [Option.some.injEq, Prod.mk.injEq] at hr
        obtain ⟨rfl, rfl⟩ := hr
        have hb := he c c' h1
        rw [ht] at hb
        rw [avr_bool hb]
        refine ⟨if t then ev x else ev y, w, .inl (by simp [asBool]), Good.quiet r ?_⟩
        cases t
        · exact he y y' h3
        · exact he x x' h2
      · cases hr
    · cases hc
  case alloc e =>
    simp only [Option.map_eq_some_iff] at hc
    obtain ⟨zs, hz, rfl⟩ := hc
    simp only [runOp, Option.some.injEq, Prod.mk.injEq] at hr
    obtain ⟨rfl, rfl⟩ := hr
    exact OpOk.value (snd_alloc r hn hz)
  case box e x =>
    simp only [Option.map_eq_some_iff] at hc
    obtain ⟨y, hy, rfl⟩ := hc
    simp only [runOp] at hr
    split at hr
    · rename_i cs hcs
      simp only [Option.some.injEq, Prod.mk.injEq] at hr
      obtain ⟨rfl, rfl⟩ := hr
      exact OpOk.value (snd_box r hn (he x y hy) hcs)
    · cases hr
  case build t ps =>
    split at hc
    · rename_i hp
      split at hc
      · rename_i zs qs hz hq
        injection hc with hc; subst hc
        simp only [runOp, Option.map_eq_some_iff] at hr
        obtain ⟨ds, hf, hr⟩ := hr
        simp only [Prod.mk.injEq] at hr
        obtain ⟨rfl, rfl⟩ := hr
        exact OpOk.quiet r (snd_build (fun x y h => he x y h) hz hp hq hf)
      · cases hc
    · cases hc
  case buildSlice t len ps =>
    split at hc
    · rename_i e hu
      split at hc
      · rename_i zs qs hz hq
        split at hc
        · rename_i hb
          obtain ⟨b1, b2, b3⟩ := hb
          injection hc with hc; subst hc
          simp only [runOp, Option.map_eq_some_iff] at hr
          obtain ⟨ds, hf, hr⟩ := hr
          simp only [Prod.mk.injEq] at hr
          obtain ⟨rfl, rfl⟩ := hr
          exact OpOk.value (snd_buildSlice r hn (fun x y h => he x y h) hu hz b1 rfl b2 b3 hq hf)
        · cases hc
      · cases hc
    · cases hc
  case load t x =>
    split at hc
    · rename_i k y hk hy
      injection hc with hc; subst hc
      simp only [runOp] at hr
      split at hr
      · rename_i cs hcs
        simp only [Option.map_eq_some_iff, Prod.mk.injEq] at hr
        obtain ⟨b, hb, rfl, rfl⟩ := hr
        exact OpOk.quiet r (snd_load r hk (he x y hy) hcs hb)
      · cases hr
    · cases hc
  case store t x y =>
    split at hc
    · rename_i hi
      split at hc
      · rename_i x' y' hx hy
        injection hc with hc; subst hc
        simp only [runOp] at hr
        split at hr
        · rename_i id off xs h1 h2
          split at hr
          · rename_i cs hh
            split at hr
            · rename_i hb
              simp only [Option.some.injEq, Prod.mk.injEq] at hr
              obtain ⟨rfl, rfl⟩ := hr
              have hp := he x x' hx
              rw [h1] at hp
              exact OpOk.unit (snd_store r hi rfl hp (he y y' hy) h2 hh hb.1 hb.2)
            · cases hr
          · cases hr
        · cases hr
      · cases hc
    · cases hc
  case nilCheck x =>
    simp only [Option.map_eq_some_iff] at hc
    obtain ⟨y, hy, rfl⟩ := hc
    have hv := he x y hy
    simp only [runOp] at hr
    split at hr <;> first | (cases hr; done) | (simp only [Option.some.injEq, Prod.mk.injEq] at hr; obtain ⟨rfl, rfl⟩ := hr)
    · rename_i hq; rw [hq] at hv
      have hv' := hv
      obtain ⟨b, o, e, _⟩ := avr_ptr hv
      rw [e] at hv' ⊢
      exact ⟨_, w, .inl rfl, Good.quiet r hv'⟩
    · rename_i hq; rw [hq] at hv
      have hv' := hv
      obtain ⟨b, o, e, _⟩ := avr_vptr hv
      rw [e] at hv' ⊢
      exact ⟨_, w, .inl rfl, Good.quiet r hv'⟩
    · rename_i hq; rw [hq] at hv
      have hv' := hv
      obtain ⟨xs, ys, e, _⟩ := avr_func hv
      rw [e] at hv' ⊢
      exact ⟨_, w, .inl rfl, Good.quiet r hv'⟩
    · rename_i hq; rw [hq] at hv
      have hv' := hv
      obtain ⟨u, e, _⟩ := avr_iface hv
      rw [e] at hv' ⊢
      exact ⟨_, w, .inl rfl, Good.quiet r hv'⟩
  case binOp op t x y yt =>
    split at hc
    · rename_i x' y' hx hy
      injection hc with hc; subst hc
      simp only [runOp, Option.map_eq_some_iff, Prod.mk.injEq] at hr
      obtain ⟨b, hb, rfl, rfl⟩ := hr
      exact OpOk.quiet r (snd_bin (he x x' hx) (he y y' hy) hb)
    · cases hc
  case unOp op t x =>
    simp only [Option.map_eq_some_iff] at hc
    obtain ⟨y, hy, rfl⟩ := hc
    simp only [runOp, Option.map_eq_some_iff, Prod.mk.injEq] at hr
    obtain ⟨b, hb, rfl, rfl⟩ := hr
    exact OpOk.quiet r (snd_un (he x y hy) hb)
  case convert src dst x =>
    split at hc
    · rename_i c y hcv hy
      injection hc with hc; subst hc
      simp only [runOp, Option.map_eq_some_iff, Prod.mk.injEq] at hr
      obtain ⟨b, hb, rfl, rfl⟩ := hr
      exact OpOk.quiet r (snd_conv r hcv (he x y hy) hb)
    · cases hc
  case makeInterface t x =>
    have hx : ∃ d, P.underlying t = some d ∧ (∀ ms, d ≠ .interface ms) ∧ ∃ y, opdOf G x = some y ∧ op = .mkIface t y := by
      cases hu : P.underlying t with
      | none => simp [hu] at hc
      | some d =>
        refine ⟨d, rfl, ?_⟩
        cases d <;> simp only [hu, reduceCtorEq] at hc <;> (simp only [Option.map_eq_some_iff] at hc; obtain ⟨y, hy, rfl⟩ := hc; exact ⟨by simp, y, hy, rfl⟩)
    obtain ⟨d, hu, hd, y, hy, rfl⟩ := hx
    simp only [runOp, Option.some.injEq, Prod.mk.injEq] at hr
    obtain ⟨rfl, rfl⟩ := hr
    refine OpOk.quiet r ⟨.iface t (ev x), ?_, .iface _ _ _ (he x y hy)⟩
    unfold Instr.makeInterface
    simp only [Sem.run_bind, run_underlying hu, Result.andThen_ok]
    cases d <;> first | rfl | exact absurd rfl (hd _)
  case makeFunc fn as bs =>
    split at hc
    · rename_i as' bs' h1 h2
      injection hc with hc; subst hc
      simp only [runOp, Option.some.injEq, Prod.mk.injEq] at hr
      obtain ⟨rfl, rfl⟩ := hr
      obtain ⟨i1, i2⟩ := he.list h1
      obtain ⟨j1, j2⟩ := he.list h2
      have e1 : as.map ev = (as.toList.map ev).toArray := by apply Array.ext'; simp
      have e2 : bs.map ev = (bs.toList.map ev).toArray := by apply Array.ext'; simp
      refine OpOk.quiet r ⟨.func fn (as.map ev) (bs.map ev), rfl, ?_⟩
      rw [e1, e2]
      exact .func _ _ _ _ _ i1 j1 i2 j2
    · cases hc
  case makeMap t rr =>
    have hx : op = .mkMap ∧ (Instr.makeMap t (rr.map ev)).run P w = .ok (.map (some w.heap.size)) (w.alloc (.map #[] 0)) := by
      split at hc
      · rename_i k e hu
        split at hc
        · injection hc with hc; subst hc
          refine ⟨rfl, ?_⟩
          simp [Instr.makeMap]
        · rename_i x
          split at hc
          · rename_i hk
            injection hc with hc; subst hc
            refine ⟨rfl, ?_⟩
            have : ∃ k m, ev x = .int k m := by
              cases x with
              | const v =>
                cases v <;> simp [isIntK] at hk
                rename_i k m
                exact ⟨k, m, avr_int (he (.const (.int k m)) (.c (.int k m)) rfl)⟩
              | _ => simp [isIntK] at hk
            obtain ⟨k, m, e⟩ := this
            simp [Instr.makeMap, run_underlying hu, asInt, asIntOf, e]
          · cases hc
      · cases hc
    obtain ⟨rfl, hrun⟩ := hx
    simp only [runOp, Option.some.injEq, Prod.mk.injEq] at hr
    obtain ⟨rfl, rfl⟩ := hr
    exact OpOk.value ⟨_, _, hrun, (snd_mkMap (P := P) r hn).2⟩
  case makeSlice t l c =>
    split at hc
    · rename_i zs i l' c' h1 h2 h3 h4
      split at hc
      · rename_i hb
        injection hc with hc; subst hc
        have hel : ∃ e, P.underlying t = some (.slice e) ∧ zerosOf P e = some zs ∧ P.info? e = some i := by
          unfold elemOf? at h1 h2
          split at h1
          · rename_i e hu
            rw [hu] at h2
            exact ⟨e, hu, h1, h2⟩
          · simp at h1
        obtain ⟨e, hu, hz, hi⟩ := hel
        simp only [runOp] at hr
        split at hr
        · rename_i k lv k' cv q1 q2
          split at hr
          · rename_i hb2
            simp only [Option.some.injEq, Prod.mk.injEq] at hr
            obtain ⟨rfl, rfl⟩ := hr
            have v1 := he l l' h3; rw [q1] at v1
            have v2 := he c c' h4; rw [q2] at v2
            rw [avr_int v1, avr_int v2]
            exact OpOk.value (snd_mkSlice r hn hu hi rfl rfl hb.2 hz hb.1 hb2.1 hb2.2.1 hb2.2.2.1 hb2.2.2.2)
          · cases hr
        · cases hr
      · cases hc
    · cases hc
  case slice t x lo hi mx =>
    split at hc
    · rename_i s x' lo' hi' mx' h1 h2 h3 h4 h5
      split at hc
      · cases hc
      · rename_i hm
        injection hc with hc; subst hc
        simp only [runOp, Option.map_eq_some_iff, Prod.mk.injEq] at hr
        obtain ⟨b, hb, rfl, rfl⟩ := hr
        refine OpOk.quiet r (snd_slice r h1 (he x x' h2) (bnd_of he h3) (bnd_of he h4) (bnd_of he h5) (fun hmx hhi => ?_) hb)
        have q1 := opdO_none h5
        have q2 := opdO_none h4
        simp only [Bool.and_eq_true, Option.isSome_iff_ne_none, Option.isNone_iff_eq_none] at hm
        exact hm ⟨hmx, hhi⟩
    · cases hc
  case fieldAddr s x f =>
    split at hc
    · rename_i fs x' hu hx
      split at hc
      · rename_i fd hf
        split at hc
        · rename_i hz
          injection hc with hc; subst hc
          simp only [runOp, Option.map_eq_some_iff, Prod.mk.injEq] at hr
          obtain ⟨b, hb, rfl, rfl⟩ := hr
          exact OpOk.quiet r (snd_fieldAddr r hu hf hz (he x x' hx) hb)
        · cases hc
      · cases hc
    · cases hc
  case field t x f =>
    split at hc
    · rename_i fs x' hu hx
      split at hc
      · rename_i fd hf
        simp only [Option.map_eq_some_iff] at hc
        obtain ⟨k, hk, rfl⟩ := hc
        simp only [runOp, Option.map_eq_some_iff, Prod.mk.injEq] at hr
        obtain ⟨b, hb, rfl, rfl⟩ := hr
        have hv := he x x' hx
        generalize x'.ev sl = y at *
        cases y <;> simp only [fieldOf, reduceCtorEq] at hb
        exact OpOk.quiet r (snd_field hu hf hk hv hb)
      · cases hc
    · cases hc
  case indexAddr t x i =>
    split at hc
    · rename_i s e x' i' hs hx hi
      injection hc with hc; subst hc
      simp only [runOp, Option.map_eq_some_iff, Prod.mk.injEq] at hr
      obtain ⟨b, hb, rfl, rfl⟩ := hr
      exact OpOk.quiet r (snd_indexAddr hs (he x x' hx) (he i i' hi) hb)
    · cases hc
  case index t x i =>
    split at hc
    · rename_i e x' i' hs hx hi
      injection hc with hc; subst hc
      simp only [runOp, Option.map_eq_some_iff, Prod.mk.injEq] at hr
      obtain ⟨b, hb, rfl, rfl⟩ := hr
      exact OpOk.quiet r (snd_index hs (.inl rfl) (he x x' hx) (he i i' hi) hb)
    · rename_i s e x' i' hne hs hx hi
      simp only [Option.map_eq_some_iff] at hc
      obtain ⟨k, hk, rfl⟩ := hc
      simp only [runOp, Option.map_eq_some_iff, Prod.mk.injEq] at hr
      obtain ⟨b, hb, rfl, rfl⟩ := hr
      exact OpOk.quiet r (snd_index hs (.inr hk) (he x x' hx) (he i i' hi) hb)
    · cases hc
  case lookup t x k ok =>
    split at hc
    · rename_i kT eT x' k' hu hx hk
      split at hc
      · rename_i kt z hkt hz
        injection hc with hc; subst hc
        obtain ⟨zv, z1, z2⟩ := zeroAV_run (P := P) (ρ := ρ) (S := S) (w := w) hz
        simp only [runOp] at hr
        split at hr
        · rename_i es ck hm
          split at hr
          · cases hr
          · rename_i hfit
            have hfit' : keyFits kt (k'.ev sl) = true := by simpa using hfit
            split at hr
            · rename_i j v b hf
              simp only [Option.some.injEq, Prod.mk.injEq] at hr
              obtain ⟨rfl, rfl⟩ := hr
              exact OpOk.quiet r (snd_lookup r hu hkt (he x x' hx) (he k k' hk) hfit' hm hf z1 z2 rfl)
            · rename_i hf
              simp only [Option.some.injEq, Prod.mk.injEq] at hr
              obtain ⟨rfl, rfl⟩ := hr
              exact OpOk.quiet r (snd_lookup r hu hkt (he x x' hx) (he k k' hk) hfit' hm hf z1 z2 rfl)
            · cases hr
        · cases hr
      · cases hc
    · cases hc
  case insert t m k x =>
    split at hc
    · rename_i kT eT m' k' x' hu hm hk hx
      simp only [Option.map_eq_some_iff] at hc
      obtain ⟨kt, hkt, rfl⟩ := hc
      simp only [runOp] at hr
      split at hr
      · rename_i id hid
        split at hr
        · rename_i es ck hh
          split at hr
          · cases hr
          · rename_i hfit
            have hfit' : keyFits kt (k'.ev sl) = true := by simpa using hfit
            have hv := he m m' hm
            rw [hid] at hv
            split at hr
            · rename_i i v b hf
              simp only [Option.some.injEq, Prod.mk.injEq] at hr
              obtain ⟨rfl, rfl⟩ := hr
              exact OpOk.unit (snd_mapUpdate r hu hkt hv (he k k' hk) (he x x' hx) hfit' hh hf)
            · rename_i hf
              simp only [Option.some.injEq, Prod.mk.injEq] at hr
              obtain ⟨rfl, rfl⟩ := hr
              exact OpOk.unit (snd_mapUpdate r hu hkt hv (he k k' hk) (he x x' hx) hfit' hh hf)
            · cases hr
        · cases hr
      · cases hr
    · cases hc
  case mapUpdate t m k x =>
    split at hc
    · rename_i kT eT m' k' x' hu hm hk hx
      simp only [Option.map_eq_some_iff] at hc
      obtain ⟨kt, hkt, rfl⟩ := hc
      simp only [runOp] at hr
      split at hr
      · rename_i id hid
        split at hr
        · rename_i es ck hh
          split at hr
          · cases hr
          · rename_i hfit
            have hfit' : keyFits kt (k'.ev sl) = true := by simpa using hfit
            have hv := he m m' hm
            rw [hid] at hv
            split at hr
            · rename_i i v b hf
              simp only [Option.some.injEq, Prod.mk.injEq] at hr
              obtain ⟨rfl, rfl⟩ := hr
              exact OpOk.unit (snd_mapUpdate r hu hkt hv (he k k' hk) (he x x' hx) hfit' hh hf)
            · rename_i hf
              simp only [Option.some.injEq, Prod.mk.injEq] at hr
              obtain ⟨rfl, rfl⟩ := hr
              exact OpOk.unit (snd_mapUpdate r hu hkt hv (he k k' hk) (he x x' hx) hfit' hh hf)
            · cases hr
        · cases hr
      · cases hr
    · cases hc
  case mapEntry t m k =>
    split at hc
    · rename_i kT eT m' k' hu hm hk
      split at hc
      · rename_i kt z hkt hz
        injection hc with hc; subst hc
        obtain ⟨zv, z1, z2⟩ := zeroAV_run (P := P) (ρ := ρ) (S := S) (w := w) hz
        simp only [runOp] at hr
        split at hr
        · rename_i id hid
          split at hr
          · rename_i es ck hh
            split at hr
            · cases hr
            · rename_i hfit
              have hfit' : keyFits kt (k'.ev sl) = true := by simpa using hfit
              have hv := he m m' hm
              rw [hid] at hv
              split at hr
              · rename_i i v b hf
                simp only [Option.some.injEq, Prod.mk.injEq] at hr
                obtain ⟨rfl, rfl⟩ := hr
                exact OpOk.value (snd_mapEntry r hu hkt hv (he k k' hk) hfit' z1 z2 hh hf)
              · rename_i hf
                simp only [Option.some.injEq, Prod.mk.injEq] at hr
                obtain ⟨rfl, rfl⟩ := hr
                exact OpOk.value (snd_mapEntry r hu hkt hv (he k k' hk) hfit' z1 z2 hh hf)
              · cases hr
          · cases hr
        · cases hr
      · cases hc
    · cases hc
  case entryStore t m s x =>
    split at hc
    · rename_i m' s' x' hm hs hx
      injection hc with hc; subst hc
      simp only [runOp] at hr
      split at hr
      · rename_i id k b hid hb
        split at hr
        · rename_i es ck hh
          split at hr
          · rename_i i hi
            split at hr
            · rename_i e hei
              simp only [Option.some.injEq, Prod.mk.injEq] at hr
              obtain ⟨rfl, rfl⟩ := hr
              have hv := he m m' hm
              rw [hid] at hv
              have hv2 := he s s' hs
              rw [hb] at hv2
              rw [avr_int hv2]
              exact OpOk.unit (snd_entryStore r hv (he x x' hx) hh hi hei)
            · cases hr
          · cases hr
        · cases hr
      · cases hr
    · cases hc
  case extract x i =>
    simp only [Option.map_eq_some_iff] at hc
    obtain ⟨y, hy, rfl⟩ := hc
    simp only [runOp] at hr
    split at hr
    · rename_i vs hvs
      split at hr
      · rename_i v hv
        simp only [Option.some.injEq, Prod.mk.injEq] at hr
        obtain ⟨rfl, rfl⟩ := hr
        have := he x y hy
        rw [hvs] at this
        exact OpOk.quiet r (snd_extract this hv)
      · cases hr
    · cases hr
  case call c =>
    split at hc
    · rename_i b hcal
      have key : (do let d ← resolve ev c type; invoke d.target d.args : Sem Next).run P w = (builtin b c.argTypes type (c.args.map fun | .const _ => true | _ => false) (c.args.map ev)).run P w := by
        unfold resolve
        simp only [hcal, Sem.run_bind, Sem.run_pure, Result.andThen_ok, invoke]
        congr 2
      show OpOk P ρ S h w n ((do let d ← resolve ev c type; invoke d.target d.args : Sem Next).run P w) a U
      rw [key]
      exact snd_builtin r hn he hc hr
    · simp only [Option.map_eq_some_iff] at hc
      obtain ⟨y, hy, rfl⟩ := hc
      simp [runOp] at hr
    · split at hc
      · injection hc with hc; subst hc
        simp [runOp] at hr
      · cases hc
    · cases hc
  all_goals cases hc
end
end Go.Fw
