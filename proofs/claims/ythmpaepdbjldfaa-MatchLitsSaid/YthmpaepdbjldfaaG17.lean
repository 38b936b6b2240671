/-
  Texts of this claim, merged: DatK. Lemmas and contracts; no conditions of our own.
-/
import Derived.Test.YthmpaepdbjldfaaG16
import Derived.Deep.RegionLaw
import Derived.Deep.AppendLies

/-
  datum.Items.
-/
namespace Go.Proofs.Ythmpaepdbjldfaa
set_option linter.unusedVariables false
set_option linter.unusedSimpArgs false
open Go.RowKit

theorem RowOf.set_other {w : World} {P : Nat → Prop} {n : Nat} {a : Option Addr} {ds : List Dat} (h : RowOf w P (IsD w P n) a ds) (ad : Addr) (v : Value) (hP : ∀ b, P b → b ≠ ad.block) : RowOf (w.setCell ad v) P (IsD (w.setCell ad v) P n) a ds :=
  h.map (fun _ _ hp => hp) (fun b o u hp hc => (World.cell?_of_block (w := w) (Below.heap_setCell _ _ _ _ (by have := hP b hp; simpa [eq_comm] using this))).trans hc) (fun _ _ hd => hd.set_other ad v hP)
end Go.Proofs.Ythmpaepdbjldfaa
