/- Contracts of the reference's coloring of cells. Conditions: none. -/
import Derived.Test.YtdacfgclclpooaaC8
namespace Go.Proofs.Ytdacfgclclpooaa
open Go Go.RowKit
set_option linter.unusedVariables false
set_option linter.unusedSimpArgs false
attribute [local irreducible] LoopP CallP Plain Exec Gd runS awp KR Ret RR LoopK SeqC BlkK CondP sub
variable {G : Nat → AV}

theorem gvalid_h {s : SD} {g : GD} (h : gvalid s g = true) : svalid s = true ∧ g.c.length = s.h.l.length ∧ g.c.all colOk = true ∧ 0 ≤ g.at' ∧ g.at' < 100 := by
  simp only [gvalid, cvalid, Bool.and_eq_true, decide_eq_true_eq] at h
  obtain ⟨h1, ⟨h2, h3, h4⟩, h5, h6⟩ := h
  have := svalid_len h1
  refine ⟨h1, h3, h4, h5, ?_⟩
  repeat' split at h6
  all_goals first | (simp at h6; done) | (simp at h6; omega)

def gcok (s : SD) (g : GD) (c : Int) : Bool := gvalid s g && cellOk s.h c
def shadeGc (g : GD) (c : Int) : GD := ⟨g.ph, if g.ph = 1 ∨ g.ph = 2 then shade g.c c else g.c, g.at'⟩

end Go.Proofs.Ytdacfgclclpooaa
