/- Contracts of the reference's coloring of cells. Conditions: none. -/
import Derived.Test.YtdacfgclclpooaaC9
namespace Go.Proofs.Ytdacfgclclpooaa
open Go Go.RowKit
set_option linter.unusedVariables false
set_option linter.unusedSimpArgs false
attribute [local irreducible] LoopP CallP Plain Exec Gd runS awp KR Ret RR LoopK SeqC BlkK CondP sub
variable {G : Nat → AV}


def colorNew (g : GD) (c : Int) : GD := ⟨g.ph, if g.ph = 1 ∨ g.ph = 2 ∨ g.ph = 3 ∧ g.at' ≤ c then (g.c.set c.toNat 0).set c.toNat 2 else g.c.set c.toNat 0, g.at'⟩

end Go.Proofs.Ytdacfgclclpooaa
