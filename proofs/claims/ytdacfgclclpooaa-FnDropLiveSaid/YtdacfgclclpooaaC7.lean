/- Contracts of the reference's steps of the collector. Conditions: none. -/
import Derived.Test.YtdacfgclclpooaaC6
namespace Go.Proofs.Ytdacfgclclpooaa
open Go Go.RowKit
set_option linter.unusedVariables false
set_option linter.unusedSimpArgs false
attribute [local irreducible] LoopP CallP Plain Exec Gd runS awp KR Ret RR LoopK SeqC BlkK CondP sub
variable {G : Nat → AV}

def mark (h : HD) (g : GD) : GD :=
  if 0 ≤ atI g.c 1 then ⟨g.ph, black h g.c (atI g.c 1).toNat, g.at'⟩
  else if 0 ≤ fiI (whiteAt g.c) h.t then ⟨g.ph, shade g.c (h.t.getD (fiI (whiteAt g.c) h.t).toNat 0), g.at'⟩
  else ⟨3, g.c, g.at'⟩

end Go.Proofs.Ytdacfgclclpooaa
