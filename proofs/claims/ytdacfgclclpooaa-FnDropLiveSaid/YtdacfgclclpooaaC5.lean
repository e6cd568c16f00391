/- Contracts of the reference's validity of collectors, of copies and of equality. Conditions: none. -/
import Derived.Test.YtdacfgclclpooaaC4
namespace Go.Proofs.Ytdacfgclclpooaa
open Go Go.RowKit
set_option linter.unusedVariables false
set_option linter.unusedSimpArgs false
attribute [local irreducible] LoopP CallP Plain Exec Gd runS awp KR Ret RR LoopK SeqC BlkK CondP sub
variable {G : Nat → AV}

def colOk (x : Int) : Bool := decide (0 ≤ x ∧ x ≤ 2)
def cvalid (h : HD) (c : List Int) : Bool := hvalid h && (decide (c.length = h.l.length) && c.all colOk)
def gvalid (s : SD) (g : GD) : Bool := svalid s && (cvalid s.h g.c && (decide (0 ≤ g.at') && (if g.ph = 0 ∨ g.ph = 2 then decide (g.at' = 0) else if g.ph = 1 then decide (g.at' < s.h.t.length) else if g.ph = 3 then decide (g.at' < s.h.l.length) else false)))
def bvalid (b : BD) : Bool := gvalid b.s b.g && (lops b.ops b.s.h.t.length && (decide (0 ≤ b.at') && decide (b.at' ≤ b.ops.length)))

/-- The lists of both fit into a machine. -/
def small (b : BD) : Prop := b.s.h.l.length ≤ 4294967296 ∧ b.s.h.r.length ≤ 4294967296 ∧ b.s.h.t.length ≤ 4294967296 ∧ b.s.f.length ≤ 4294967296 ∧ b.g.c.length ≤ 4294967296 ∧ b.ops.length ≤ 4294967296

def oB (k : Nat) (b : BD) : AV := .agg [.sl k 0 b.s.h.l.length b.s.h.l.length, .sl (k + 1) 0 b.s.h.r.length b.s.h.r.length, .sl (k + 2) 0 b.s.h.t.length b.s.h.t.length, .sl (k + 3) 0 b.s.f.length b.s.f.length,
  .i .i64 b.g.ph, .sl (k + 4) 0 b.g.c.length b.g.c.length, .i .i64 b.g.at', .sl (k + 5) 0 b.ops.length b.ops.length, .i .i64 b.at', .b b.lost]
def hB (b : BD) : Hp := [.cells 1 (ints b.s.h.l), .cells 1 (ints b.s.h.r), .cells 1 (ints b.s.h.t), .cells 1 (ints b.s.f), .cells 1 (ints b.g.c), .cells 3 (odc b.ops)]

theorem take_eq_succ {a b : List Int} {i : Nat} (ha : i < a.length) (hb : i < b.length) (h : a.take i = b.take i) (he : a.getD i 0 = b.getD i 0) : a.take (i + 1) = b.take (i + 1) := by
  rw [List.take_succ_eq_append_getElem ha, List.take_succ_eq_append_getElem hb, h, ← getD_lt ha 0, ← getD_lt hb 0, he]

theorem ic_s_l1Ints (a b : List Int) (ha : a.length ≤ 4294967296) : IC PP G 47 [vI true a, vI true b] [] (.b (a == b)) [] := by
  refine IC_go ttOk mixed (fn := Try.f47) (by kernel_rfl) (by rfl) (by rfl) (by kernel_rfl) (by rfl) (by first | rfl | simp [cln, clns, clnB, ints_cln, strs_cln, odc_cln, u8s_cln, bools_cln, rdB, vI, vH, vS, vG, vO, vOs, vB, vC, vZ]) (by first | rfl | simp [cln, clns, clnB, ints_cln, strs_cln, odc_cln, u8s_cln, bools_cln, rdB, vI, vH, vS, vG, vO, vOs, vB, vC, vZ]) ?_
  simp only [Try.f47, W1, W2, TTs, implies_true, ↓addR_none, ↓reduceIte, reduceCtorEq, Nat.reduceEqDiff, Nat.reduceAdd, Nat.reduceSub, Nat.reduceMul, Nat.reduceLT, Nat.reduceLeDiff, Nat.reduceBEq, List.reduceReplicate, Int.reduceNeg, Int.reduceToNat]
  (repeat' first | ((with_reducible refine drawOK_of ?_); as_aux_lemma => kernel_rfl) | assumption | apply And.intro | intro)
  · rename_i h
    have : a ≠ b := fun e => h (by rw [e])
    simp [this]
  · rename_i h
    refine loop_intro (ι := Nat) (fun i => ([(0, vI true a), (1, vI true b), (5, .i .i64 i)], [])) (fun i => i ≤ a.length ∧ a.take i = b.take i) (fun i => a.length - i) 0 (by simp) (by refine Wk_mk [] (by decide) (by rfl) (by simp) (by simp only [W1, W2, TTs, implies_true, ↓addR_none, ↓reduceIte, reduceCtorEq, Nat.reduceEqDiff, Nat.reduceAdd, Nat.reduceSub, Nat.reduceMul, Nat.reduceLT, Nat.reduceLeDiff, Nat.reduceBEq, List.reduceReplicate, Int.reduceNeg, Int.reduceToNat]) (by simp only [W1, W2, TTs, implies_true, ↓addR_none, ↓reduceIte, reduceCtorEq, Nat.reduceEqDiff, Nat.reduceAdd, Nat.reduceSub, Nat.reduceMul, Nat.reduceLT, Nat.reduceLeDiff, Nat.reduceBEq, List.reduceReplicate, Int.reduceNeg, Int.reduceToNat]) (by simp only [W1, W2, TTs, implies_true, ↓addR_none, ↓reduceIte, reduceCtorEq, Nat.reduceEqDiff, Nat.reduceAdd, Nat.reduceSub, Nat.reduceMul, Nat.reduceLT, Nat.reduceLeDiff, Nat.reduceBEq, List.reduceReplicate, Int.reduceNeg, Int.reduceToNat])) ?_
    intro i hi
    simp only [W1, W2, TTs, implies_true, ↓addR_none, ↓reduceIte, reduceCtorEq, Nat.reduceEqDiff, Nat.reduceAdd, Nat.reduceSub, Nat.reduceMul, Nat.reduceLT, Nat.reduceLeDiff, Nat.reduceBEq, List.reduceReplicate, Int.reduceNeg, Int.reduceToNat, wrap_succ i (by omega)]
    (repeat' first | ((with_reducible refine drawOK_of ?_); as_aux_lemma => kernel_rfl) | assumption | apply And.intro | intro)
    · omega
    · omega
    · rename_i k1 k2
      have : a ≠ b := fun e => k2 (by rw [e])
      simp [this]
    · rename_i k1 k2
      exact ⟨i + 1, ⟨by omega, take_eq_succ k1 (by omega) hi.2 k2⟩, by omega, by refine Wk_mk [] (by decide) (by rfl) (by simp) (by simp only [W1, W2, TTs, implies_true, ↓addR_none, ↓reduceIte, reduceCtorEq, Nat.reduceEqDiff, Nat.reduceAdd, Nat.reduceSub, Nat.reduceMul, Nat.reduceLT, Nat.reduceLeDiff, Nat.reduceBEq, List.reduceReplicate, Int.reduceNeg, Int.reduceToNat]) (by simp only [W1, W2, TTs, implies_true, ↓addR_none, ↓reduceIte, reduceCtorEq, Nat.reduceEqDiff, Nat.reduceAdd, Nat.reduceSub, Nat.reduceMul, Nat.reduceLT, Nat.reduceLeDiff, Nat.reduceBEq, List.reduceReplicate, Int.reduceNeg, Int.reduceToNat]) (by simp only [W1, W2, TTs, implies_true, ↓addR_none, ↓reduceIte, reduceCtorEq, Nat.reduceEqDiff, Nat.reduceAdd, Nat.reduceSub, Nat.reduceMul, Nat.reduceLT, Nat.reduceLeDiff, Nat.reduceBEq, List.reduceReplicate, Int.reduceNeg, Int.reduceToNat])⟩
    · rename_i k1
      have : a = b := by rw [← List.take_of_length_le (l := a) (i := i) (by omega), hi.2, List.take_of_length_le (by omega)]
      simp [this]

end Go.Proofs.Ytdacfgclclpooaa
