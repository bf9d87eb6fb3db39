/-
  A slice of integers that came in, as a list.
-/
import Derived.Test.YtbmegoemimfiaaaData
namespace Go.Proofs.Ytbmegoemimfiaaa
open Go Go.RowKit
def IntsIn (w : World) (A : Option Addr) (zs : List Int) : Prop := 0 < zs.length → ∃ b o, A = some ⟨b, o, none⟩ ∧ ∀ j, j < zs.length → w.cell? ⟨b, o + j, none⟩ = some (.int .i64 (zs.getD j 0))
end Go.Proofs.Ytbmegoemimfiaaa
