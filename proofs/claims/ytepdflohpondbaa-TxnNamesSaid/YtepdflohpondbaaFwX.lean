/- The boundary: a call from any world, nothing of ours lying about. -/
import Derived.Test.YtepdflohpondbaaFwW
import Derived.RowKit3
import Derived.Below
set_option linter.unusedSimpArgs false
set_option linter.unusedVariables false
namespace Go.Fw
open Go.RowKit
section
variable {P : Program} {G : Glob} {W w' : World}

/-- Whatever lay there lies as it lay. -/
structure Stays (W w' : World) : Prop where
  below : Below W.heap.size W w'
  froz : ∀ a : Addr, a.block < W.heap.size → w'.frozen? a = W.frozen? a

/-- Whatever lies there stays as it is. -/
def allS (W : World) : Nat → Prop := fun b => b < W.heap.size
def noA : AHeap := fun _ => none
def noR : Nat → Option (Nat × Nat) := fun _ => none

theorem relH_start (W : World) : RelH noR (allS W) noA W where
  live := fun id b h => by cases h
  inj := fun id id' b b' x y x' y' h => by cases h
  bound := fun b h => h
  dom := fun id b o h => by cases h
  zero := fun id b o h => by cases h

theorem own_noA {b : Nat} (h : own noR noA b) : False := by
  obtain ⟨i, bi, o, e1, e2, e3⟩ := h
  cases e1

theorem grown_of {ρ' : Nat → Option (Nat × Nat)} {S' : Nat → Prop} {h' : AHeap} (d : Adv noR (allS W) noA W ρ' S' h' w') : Stays W w' :=
  ⟨⟨d.fr.os, d.fr.tape, d.fr.output, d.fr.size, fun b hb => d.fr.kept b hb (fun h => own_noA h)⟩, d.fr.froz⟩

/-- A call from any world: its arguments read as views. -/
theorem calls_start {f : FuncId} {as : List AV} {N : Nat} {Q : AV → AHeap → Nat → Prop} (x : AFn P G f as noA 0 N Q) (hg : GRel G (allS W) W) {vs : List Value} (hl : as.length = vs.length)
    (hv : ∀ (i : Nat) (c : AV) (v : Value), as[i]? = some c → vs[i]? = some v → PVR (allS W) W c v) :
    Calls P f vs.toArray W (fun e w' => ∃ v c h' n' ρ' S', e = .returned v ∧ AVR ρ' S' w' c v ∧ Q c h' n' ∧ Stays W w' ∧ RelH ρ' S' h' w' ∧ ∀ c v, PVR (allS W) W c v → PVR S' w' c v) := by
  refine (x noR (allS W) W vs (relH_start W) (fun _ _ _ => rfl) hg hl (fun i c v h1 h2 => .pv _ _ (hv i c v h1 h2))).mono ?_
  rintro e w' ⟨v, c, h', n', ρ', S', h1, h2, h3, h4, h5, h6, h7⟩
  exact ⟨v, c, h', n', ρ', S', h1, h2, h7, grown_of h4, h3, fun c v hp => hp.adv (relH_start W) h4⟩
end
end Go.Fw
