/-
  Helpers: the class of worlds that have only grown ('Beyond'), and a walk of a region that draws its order over that class.
-/
import Derived.WalkKit
import Derived.ProofKit
import Derived.OpenShut
import Derived.ShutString
import Derived.ChangeOld
import Derived.Below
import Derived.BigQuiet
import Derived.Deep.QuietTactic

namespace Go.Proofs.Yticpldjcmhpjoaa
open Go.RowKit
set_option linter.unusedVariables false
set_option linter.unusedSimpArgs false

/-- A world that is as W was below block B. -/
structure Beyond (B : Nat) (W : World) where
  w : World
  h : Below B W w

instance instNonemptyBeyond {B : Nat} {W : World} : Nonempty (Beyond B W) := ⟨⟨W, Below.refl _ _⟩⟩

theorem Calls.beyond {P : Program} {f : FuncId} {args : Array Value} {B : Nat} {W : World} {x : Beyond B W} {v : Value} (hB : B ≤ W.heap.size)
    (h : Calls P f args x.w fun e w' => e = .returned v ∧ Below x.w.heap.size x.w w') : Calls P f args x.w fun e w'' => e = .returned v ∧ ∃ y : Beyond B W, w'' = y.w :=
  h.mono fun _ w' ⟨he, hm⟩ => ⟨he, ⟨w', x.h.trans (hm.mono (Nat.le_trans hB x.h.size))⟩, rfl⟩

theorem wp_region_beyond {P : Program} {id : Nat} {Q : Exit → Act → World → Prop} {a : Act} {w : World} {l : List Oper} (B : Nat) (hm : P.follows .mixedOrders = true) (hB : Region.lexB .any l.toArray = true)
    (h : wpQuiet P l.toArray (fun w' => ∃ x : Beyond B w, w' = x.w) (fun a' => ∀ w', (∃ x : Beyond B w, w' = x.w) → Q .normal a' w') l a) : (Code.region id l.toArray true).wp P Q a w :=
  wp_region_quiet (C := fun w' => ∃ x : Beyond B w, w' = x.w) hm hB ⟨⟨w.drew, (Below.refl B w).drew⟩, rfl⟩ (by simpa using h)
theorem below_drewN {B : Nat} {a w : World} (h : Below B a w) (n : Nat) : Below B a (w.drewN n) := ⟨h.os, h.tape, h.output, h.size, h.block⟩
end Go.Proofs.Yticpldjcmhpjoaa
