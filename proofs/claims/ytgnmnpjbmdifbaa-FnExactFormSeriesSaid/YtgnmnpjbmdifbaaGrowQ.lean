/- A region that draws its order, whose operations yield one value each in every world of a class S, and leave a world of S: one walk in the order of the text. No program in sight. -/
import Derived.BigQuiet
import Derived.Below
set_option linter.unusedVariables false
set_option linter.unusedSimpArgs false
namespace Go.Proofs.Ytgnmnpjbmdifbaa
open Go Go.RowKit

/-- a world of the class -/
structure GW (S : World → Prop) where
  w : World
  h : S w

theorem wp_region_grow {P : Program} {id : Nat} {Q : Exit → Act → World → Prop} {a : Act} {w : World} {l : List Oper} (S : World → Prop) (hm : P.follows .mixedOrders = true) (hB : Region.lexB .any l.toArray = true) (hC : S w.drew)
    (h : Nonempty (GW S) → wpQuiet P l.toArray (fun w' => ∃ x : GW S, w' = x.w) (fun a' => ∀ w', (∃ x : GW S, w' = x.w) → Q .normal a' w') l a) : (Code.region id l.toArray true).wp P Q a w :=
  wp_region_quiet (C := fun w' => ∃ x : GW S, w' = x.w) hm hB ⟨⟨_, hC⟩, rfl⟩ (by simpa using h ⟨⟨_, hC⟩⟩)

/-- a callee that leaves a world of the class -/
theorem grow_call {P : Program} {f : FuncId} {args : Array Value} {w : World} {v : Value} {S : World → Prop} (h : Calls P f args w fun e w' => e = .returned v ∧ S w') : Calls P f args w fun e w'' => e = .returned v ∧ ∃ x : GW S, w'' = x.w :=
  h.mono fun _ w' ⟨he, hw⟩ => ⟨he, ⟨w', hw⟩, rfl⟩
end Go.Proofs.Ytgnmnpjbmdifbaa
