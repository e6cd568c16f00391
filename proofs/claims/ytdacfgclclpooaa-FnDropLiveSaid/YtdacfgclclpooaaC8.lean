/- Contracts of the reference's operations on stores. Conditions: none. -/
import Derived.Test.YtdacfgclclpooaaC7
namespace Go.Proofs.Ytdacfgclclpooaa
open Go Go.RowKit
set_option linter.unusedVariables false
set_option linter.unusedSimpArgs false
attribute [local irreducible] LoopP CallP Plain Exec Gd runS awp KR Ret RR LoopK SeqC BlkK CondP sub
variable {G : Nat → AV}

def cellOk (h : HD) (c : Int) : Bool := hvalid h && decide (0 ≤ c ∧ c < h.l.length)
theorem ovalid_ix {o : OD} {n : Int} (h : ovalid o n = true) : 1 ≤ o.k ∧ o.k ≤ 7 ∧ 0 ≤ o.a ∧ o.a < n ∧ 0 ≤ o.b ∧ o.b < n := by
  simp only [ovalid, Bool.and_eq_true, decide_eq_true_eq] at h
  split at h <;> simp at h <;> omega

def target (s : SD) (o : OD) : Int := if svalid s = true ∧ ovalid o s.h.t.length = true ∧ (o.k = 5 ∨ o.k = 6) ∧ s.h.t.getD o.a.toNat 0 ≠ -1 then s.h.t.getD o.b.toNat 0 else -1
end Go.Proofs.Ytdacfgclclpooaa
