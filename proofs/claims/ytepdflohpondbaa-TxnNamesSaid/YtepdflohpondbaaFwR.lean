/- What a call leaves where more blocks lie than it was shown. -/
import Derived.Test.YtepdflohpondbaaFwQ
set_option linter.unusedSimpArgs false
set_option linter.unusedVariables false
namespace Go.Fw

def nro : Option Blk → Option Blk
  | some b => if b.ro then none else some b
  | none => none

theorem nro_some {x : Option Blk} {b : Blk} (h : nro x = some b) : x = some b ∧ b.ro = false := by
  cases x with
  | none => cases h
  | some c =>
    simp only [nro] at h
    split at h
    · cases h
    · rename_i hr
      injection h with h; subst h
      exact ⟨rfl, by simpa using hr⟩

/-- The blocks that are taken from the call: those that it was shown, and its own. -/
def mixH (h hr h' : AHeap) (n n' : Nat) : AHeap := fun id => if (hr id).isSome ∨ (n ≤ id ∧ id < n') then nro (h' id) else h id

section
variable {P : Program} {G : Glob} {ρ ρ' : Nat → Option (Nat × Nat)} {S S' : Nat → Prop} {h hr h' : AHeap} {w w' : World} {n n' N : Nat}

theorem RelH.shown (r : RelH ρ S h w) (hs : ∀ id b, hr id = some b → h id = some b) : RelH ρ S hr w :=
  ⟨fun id b hx => r.live id b (hs id b hx), fun i j bi bj x y x' y' hx hx' => r.inj i j bi bj x y x' y' (hs _ _ hx) (hs _ _ hx'), r.bound, r.dom, r.zero⟩

theorem own_shown (hs : ∀ id b, hr id = some b → h id = some b) {b : Nat} (ho : own ρ hr b) : own ρ h b := by
  obtain ⟨i, bi, o, e1, e2, e3⟩ := ho
  exact ⟨i, bi, o, hs _ _ e1, e2, e3⟩

theorem RelB.at (r : RelH ρ S h w) {id : Nat} {blk : Blk} (hx : h id = some blk) : ∃ b o, ρ id = some (b, o) := by
  have := r.live id blk hx
  cases blk with
  | cells cs ro => obtain ⟨b, o, _, _, _, e, _⟩ := this; exact ⟨b, o, e⟩
  | map es c => obtain ⟨b, _, e, _⟩ := this; exact ⟨b, 0, e⟩

theorem frame (r : RelH ρ S h w) (hs : ∀ id b, hr id = some b → h id = some b) (r' : RelH ρ' S' h' w') (d : Adv ρ S hr w ρ' S' h' w') : 
    RelH ρ' S' (mixH h hr h' n n') w' ∧ Adv ρ S h w ρ' S' (mixH h hr h' n n') w' := by
  have hf : Fr (own ρ h) w w' := d.fr.mono fun b hb => own_shown hs hb
  have he := r.ext hf
  -- the blocks that it was not shown
  have apart : ∀ id blk b o, hr id = none → h id = some blk → ρ id = some (b, o) → ¬ own ρ hr b := by
    rintro id blk b o h1 h2 h3 ⟨i, bi, o', e1, e2, e3⟩
    refine r.inj id i blk bi b o b o' h2 (hs _ _ e1) h3 e3 ?_ rfl
    rintro rfl; rw [h1] at e1; cases e1
  have old : ∀ id blk, mixH h hr h' n n' id = some blk → ((hr id).isSome ∨ (n ≤ id ∧ id < n')) ∧ h' id = some blk ∧ blk.ro = false ∨ hr id = none ∧ h id = some blk := by
    intro id blk hx
    simp only [mixH] at hx
    split at hx
    · rename_i hk
      exact .inl ⟨hk, nro_some hx⟩
    · rename_i hk
      refine .inr ⟨?_, hx⟩
      cases hq : hr id with
      | none => rfl
      | some b => exact absurd (.inl (by simp [hq])) hk
  -- a block from the call and another one lie apart
  have mixed : ∀ id id' blk blk' b o b' o', h' id = some blk → blk.ro = false → hr id' = none → h id' = some blk' → ρ' id = some (b, o) → ρ' id' = some (b', o') → b ≠ b' := by
    intro id id' blk blk' b o b' o' h1 h2 h3 h4 h5 h6
    obtain ⟨b0, o0, h7⟩ := RelB.at r h4
    have h8 := d.ids _ _ h7
    rw [h6] at h8; injection h8 with h8; injection h8 with h8 _; subst h8
    rintro rfl
    rcases d.owned b ⟨id, blk, o, h1, h2, h5⟩ with h9 | h9
    · exact apart id' blk' b o0 h3 h4 h7 h9
    · have := r.dom _ _ _ h7; omega
  refine ⟨⟨fun id blk hx => ?_, fun id id' blk blk' b o b' o' hx hx' e e' hne => ?_, r'.bound, r'.dom, r'.zero⟩, ⟨hf, d.up, fun b hb => ?_, fun b hb => ?_, d.ids⟩⟩
  · rcases old id blk hx with ⟨_, h1, _⟩ | ⟨h1, h2⟩
    · exact r'.live id blk h1
    · refine (r.live id blk h2).keep he d.up d.ids (fun b o hb => ?_) (fun b o hb hro hS' => ?_)
      · exact d.fr.kept b (r.dom _ _ _ hb) (apart id blk b o h1 h2 hb)
      · rcases d.down b hS' with h3 | h3 | h3
        · exact h3
        · exact absurd h3 (apart id blk b o h1 h2 hb)
        · have := r.dom _ _ _ hb; omega
  · rcases old id blk hx with ⟨_, h1, h1r⟩ | ⟨h1, h2⟩ <;> rcases old id' blk' hx' with ⟨_, h3, h3r⟩ | ⟨h3, h4⟩
    · exact r'.inj id id' blk blk' b o b' o' h1 h3 e e' hne
    · exact mixed id id' blk blk' b o b' o' h1 h1r h3 h4 e e'
    · exact fun q => mixed id' id blk' blk b' o' b o h3 h3r h1 h2 e' e q.symm
    · obtain ⟨b0, o0, g⟩ := RelB.at r h2
      obtain ⟨b1, o1, g'⟩ := RelB.at r h4
      have k := d.ids _ _ g
      have k' := d.ids _ _ g'
      rw [e] at k; rw [e'] at k'
      injection k with k; injection k' with k'
      rw [← k] at g; rw [← k'] at g'
      exact r.inj id id' blk blk' b o b' o' h2 h4 g g' hne
  · rcases d.down b hb with h1 | h1 | h1
    · exact .inl h1
    · exact .inr (.inl (own_shown hs h1))
    · exact .inr (.inr h1)
  · obtain ⟨id, blk, o, h1, h2, h3⟩ := hb
    rcases old id blk h1 with ⟨_, h4, _⟩ | ⟨h4, h5⟩
    · rcases d.owned b ⟨id, blk, o, h4, h2, h3⟩ with h6 | h6
      · exact .inl (own_shown hs h6)
      · exact .inr h6
    · obtain ⟨b0, o0, g⟩ := RelB.at r h5
      have k := d.ids _ _ g
      rw [h3] at k; injection k with k
      exact .inl ⟨id, blk, o, h5, h2, by rw [g, k]⟩

theorem afn_frame {f : FuncId} {args : List AV} {Q : AV → AHeap → Nat → Prop} (x : AFn P G f args hr n N Q) (hs : ∀ id b, hr id = some b → h id = some b) :
    AFn P G f args h n N (fun c h1 n1 => ∃ h', Q c h' n1 ∧ h1 = mixH h hr h' n n1) := by
  intro ρ S w vs r hf hg hl ha
  refine Calls.mono (x ρ S w vs (r.shown hs) hf hg hl ha) ?_
  rintro e w' ⟨v, c, h', n', ρ', S', h1, h2, h3, h4, h5, h6, h7⟩
  obtain ⟨g1, g2⟩ := frame (n := n) (n' := n') r hs h3 h4
  exact ⟨v, c, mixH h hr h' n n', n', ρ', S', h1, h2, g1, g2, h5, h6, h', h7, rfl⟩
end
end Go.Fw
