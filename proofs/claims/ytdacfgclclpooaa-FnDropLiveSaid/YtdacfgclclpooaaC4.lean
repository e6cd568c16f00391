/- Contracts of the reference's new heaps, stores, states. Conditions: none. -/
import Derived.Test.YtdacfgclclpooaaC3
namespace Go.Proofs.Ytdacfgclclpooaa
open Go Go.RowKit
set_option linter.unusedVariables false
set_option linter.unusedSimpArgs false
attribute [local irreducible] LoopP CallP Plain Exec Gd runS awp KR Ret RR LoopK SeqC BlkK CondP sub
variable {G : Nat → AV}

def okSize (c r : Int) : Bool := decide (1 ≤ c ∧ c ≤ 8 ∧ 1 ≤ r ∧ r ≤ 3)
def hzero : HD := ⟨[], [], []⟩
def szero : SD := ⟨hzero, []⟩
def newHeap (c r : Int) : HD := ⟨List.replicate c.toNat (-1), List.replicate c.toNat (-1), List.replicate r.toNat (-1)⟩
def upto (n : Nat) : List Int := (List.range n).map Int.ofNat
def newStore (c r : Int) : SD := ⟨newHeap c r, upto c.toNat⟩
theorem upto_succ (n : Nat) : upto (n + 1) = upto n ++ [(n : Int)] := by simp [upto, List.range_succ]
theorem upto_len (n : Nat) : (upto n).length = n := by simp [upto]

theorem ic_s_NewHeap (c r : Int) : IC PP G 66 [.i .i64 c, .i .i64 r] [] (.tup [vH false (if okSize c r then newHeap c r else hzero), .b (okSize c r)]) [] := by
  cases hv : okSize c r
  · simp only [Bool.false_eq_true, ↓reduceIte]
    have hv' : ¬ (1 ≤ c ∧ c ≤ 8 ∧ 1 ≤ r ∧ r ≤ 3) := by simpa [okSize] using hv
    refine IC_go ttOk mixed (fn := Try.f66) (by kernel_rfl) (by rfl) (by rfl) (by kernel_rfl) (by rfl) (by first | rfl | simp [cln, clns, clnB, ints_cln, strs_cln, odc_cln, u8s_cln, bools_cln, rdB, vI, vH, vS, vG, vO, vOs, vB, vC, vZ]) (by first | rfl | simp [cln, clns, clnB, ints_cln, strs_cln, odc_cln, u8s_cln, bools_cln, rdB, vI, vH, vS, vG, vO, vOs, vB, vC, vZ]) ?_
    simp only [Try.f66, W1, W2, TTs, implies_true, ↓addR_none, ↓reduceIte, reduceCtorEq, Nat.reduceEqDiff, Nat.reduceAdd, Nat.reduceSub, Nat.reduceMul, Nat.reduceLT, Nat.reduceLeDiff, Nat.reduceBEq, List.reduceReplicate, Int.reduceNeg, Int.reduceToNat, hzero]
    (repeat' first | ((with_reducible refine drawOK_of ?_); as_aux_lemma => kernel_rfl) | assumption | apply And.intro | intro)
    all_goals first | omega | (refine Eq.symm ?_; first | (simp_all [hzero]; done) | (simp_all [hzero]; omega) | (simp [hzero]; omega)) | skip
    all_goals exfalso; omega
  · simp only [↓reduceIte]
    have hv' : 1 ≤ c ∧ c ≤ 8 ∧ 1 ≤ r ∧ r ≤ 3 := by simpa [okSize] using hv
    obtain ⟨n, rfl⟩ : ∃ n : Nat, c = n := ⟨c.toNat, by omega⟩
    obtain ⟨m, rfl⟩ : ∃ m : Nat, r = m := ⟨r.toNat, by omega⟩
    refine IC_go ttOk mixed (fn := Try.f66) (by kernel_rfl) (by rfl) (by rfl) (by kernel_rfl) (by rfl) (by first | rfl | simp [cln, clns, clnB, ints_cln, strs_cln, odc_cln, u8s_cln, bools_cln, rdB, vI, vH, vS, vG, vO, vOs, vB, vC, vZ]) (by first | rfl | simp [cln, clns, clnB, ints_cln, strs_cln, odc_cln, u8s_cln, bools_cln, rdB, vI, vH, vS, vG, vO, vOs, vB, vC, vZ]) ?_
    simp only [Try.f66, W1, W2, TTs, implies_true, ↓addR_none, ↓reduceIte, reduceCtorEq, Nat.reduceEqDiff, Nat.reduceAdd, Nat.reduceSub, Nat.reduceMul, Nat.reduceLT, Nat.reduceLeDiff, Nat.reduceBEq, List.reduceReplicate, Int.reduceNeg, Int.reduceToNat]
    (repeat' first | ((with_reducible refine drawOK_of ?_); as_aux_lemma => kernel_rfl) | assumption | apply And.intro | intro)
    all_goals first | omega | (refine Eq.symm ?_; first | (simp_all [hzero]; done) | (simp_all [hzero]; omega) | (simp [hzero]; omega)) | skip
    (refine call_intro [] (ic_s_l1Many n (by omega)) (by first | (simp only [W1, W2, TTs, implies_true, ↓addR_none, ↓reduceIte, reduceCtorEq, Nat.reduceEqDiff, Nat.reduceAdd, Nat.reduceSub, Nat.reduceMul, Nat.reduceLT, Nat.reduceLeDiff, Nat.reduceBEq, List.reduceReplicate, Int.reduceNeg, Int.reduceToNat]; done) | exact subs_refl _ | (simp only [W1, W2, TTs, implies_true, ↓addR_none, ↓reduceIte, reduceCtorEq, Nat.reduceEqDiff, Nat.reduceAdd, Nat.reduceSub, Nat.reduceMul, Nat.reduceLT, Nat.reduceLeDiff, Nat.reduceBEq, List.reduceReplicate, Int.reduceNeg, Int.reduceToNat]; omega)) (by first | (simp only [W1, W2, TTs, implies_true, ↓addR_none, ↓reduceIte, reduceCtorEq, Nat.reduceEqDiff, Nat.reduceAdd, Nat.reduceSub, Nat.reduceMul, Nat.reduceLT, Nat.reduceLeDiff, Nat.reduceBEq, List.reduceReplicate, Int.reduceNeg, Int.reduceToNat]; done) | rfl) (by decide) (by first | (simp only [W1, W2, TTs, implies_true, ↓addR_none, ↓reduceIte, reduceCtorEq, Nat.reduceEqDiff, Nat.reduceAdd, Nat.reduceSub, Nat.reduceMul, Nat.reduceLT, Nat.reduceLeDiff, Nat.reduceBEq, List.reduceReplicate, Int.reduceNeg, Int.reduceToNat]; done) | (simp; done) | (simp [get]; done)) (by simp) ?_; simp only [W1, W2, TTs, implies_true, ↓addR_none, ↓reduceIte, reduceCtorEq, Nat.reduceEqDiff, Nat.reduceAdd, Nat.reduceSub, Nat.reduceMul, Nat.reduceLT, Nat.reduceLeDiff, Nat.reduceBEq, List.reduceReplicate, Int.reduceNeg, Int.reduceToNat]; (repeat' first | ((with_reducible refine drawOK_of ?_); as_aux_lemma => kernel_rfl) | assumption | apply And.intro | intro); all_goals first | omega | (refine Eq.symm ?_; first | (simp_all [hzero]; done) | (simp_all [hzero]; omega) | (simp [hzero]; omega)) | skip)
    (refine call_intro [] (ic_s_l1Many n (by omega)) (by first | (simp only [W1, W2, TTs, implies_true, ↓addR_none, ↓reduceIte, reduceCtorEq, Nat.reduceEqDiff, Nat.reduceAdd, Nat.reduceSub, Nat.reduceMul, Nat.reduceLT, Nat.reduceLeDiff, Nat.reduceBEq, List.reduceReplicate, Int.reduceNeg, Int.reduceToNat]; done) | exact subs_refl _ | (simp only [W1, W2, TTs, implies_true, ↓addR_none, ↓reduceIte, reduceCtorEq, Nat.reduceEqDiff, Nat.reduceAdd, Nat.reduceSub, Nat.reduceMul, Nat.reduceLT, Nat.reduceLeDiff, Nat.reduceBEq, List.reduceReplicate, Int.reduceNeg, Int.reduceToNat]; omega)) (by first | (simp only [W1, W2, TTs, implies_true, ↓addR_none, ↓reduceIte, reduceCtorEq, Nat.reduceEqDiff, Nat.reduceAdd, Nat.reduceSub, Nat.reduceMul, Nat.reduceLT, Nat.reduceLeDiff, Nat.reduceBEq, List.reduceReplicate, Int.reduceNeg, Int.reduceToNat]; done) | rfl) (by decide) (by first | (simp only [W1, W2, TTs, implies_true, ↓addR_none, ↓reduceIte, reduceCtorEq, Nat.reduceEqDiff, Nat.reduceAdd, Nat.reduceSub, Nat.reduceMul, Nat.reduceLT, Nat.reduceLeDiff, Nat.reduceBEq, List.reduceReplicate, Int.reduceNeg, Int.reduceToNat]; done) | (simp; done) | (simp [get]; done)) (by simp) ?_; simp only [W1, W2, TTs, implies_true, ↓addR_none, ↓reduceIte, reduceCtorEq, Nat.reduceEqDiff, Nat.reduceAdd, Nat.reduceSub, Nat.reduceMul, Nat.reduceLT, Nat.reduceLeDiff, Nat.reduceBEq, List.reduceReplicate, Int.reduceNeg, Int.reduceToNat]; (repeat' first | ((with_reducible refine drawOK_of ?_); as_aux_lemma => kernel_rfl) | assumption | apply And.intro | intro); all_goals first | omega | (refine Eq.symm ?_; first | (simp_all [hzero]; done) | (simp_all [hzero]; omega) | (simp [hzero]; omega)) | skip)
    (refine call_intro [] (ic_s_l1Many m (by omega)) (by first | (simp only [W1, W2, TTs, implies_true, ↓addR_none, ↓reduceIte, reduceCtorEq, Nat.reduceEqDiff, Nat.reduceAdd, Nat.reduceSub, Nat.reduceMul, Nat.reduceLT, Nat.reduceLeDiff, Nat.reduceBEq, List.reduceReplicate, Int.reduceNeg, Int.reduceToNat]; done) | exact subs_refl _ | (simp only [W1, W2, TTs, implies_true, ↓addR_none, ↓reduceIte, reduceCtorEq, Nat.reduceEqDiff, Nat.reduceAdd, Nat.reduceSub, Nat.reduceMul, Nat.reduceLT, Nat.reduceLeDiff, Nat.reduceBEq, List.reduceReplicate, Int.reduceNeg, Int.reduceToNat]; omega)) (by first | (simp only [W1, W2, TTs, implies_true, ↓addR_none, ↓reduceIte, reduceCtorEq, Nat.reduceEqDiff, Nat.reduceAdd, Nat.reduceSub, Nat.reduceMul, Nat.reduceLT, Nat.reduceLeDiff, Nat.reduceBEq, List.reduceReplicate, Int.reduceNeg, Int.reduceToNat]; done) | rfl) (by decide) (by first | (simp only [W1, W2, TTs, implies_true, ↓addR_none, ↓reduceIte, reduceCtorEq, Nat.reduceEqDiff, Nat.reduceAdd, Nat.reduceSub, Nat.reduceMul, Nat.reduceLT, Nat.reduceLeDiff, Nat.reduceBEq, List.reduceReplicate, Int.reduceNeg, Int.reduceToNat]; done) | (simp; done) | (simp [get]; done)) (by simp) ?_; simp only [W1, W2, TTs, implies_true, ↓addR_none, ↓reduceIte, reduceCtorEq, Nat.reduceEqDiff, Nat.reduceAdd, Nat.reduceSub, Nat.reduceMul, Nat.reduceLT, Nat.reduceLeDiff, Nat.reduceBEq, List.reduceReplicate, Int.reduceNeg, Int.reduceToNat, newHeap]; (repeat' first | ((with_reducible refine drawOK_of ?_); as_aux_lemma => kernel_rfl) | assumption | apply And.intro | intro); all_goals first | omega | (refine Eq.symm ?_; first | (simp_all [hzero]; done) | (simp_all [hzero]; omega) | (simp [hzero]; omega)) | skip)

theorem ic_s_NewStore (c r : Int) : IC PP G 56 [.i .i64 c, .i .i64 r] [] (.tup [vS false (if okSize c r then newStore c r else szero), .b (okSize c r)]) [] := by
  have h1 := ic_s_NewHeap (G := G) c r
  cases hv : okSize c r
  · simp only [hv, Bool.false_eq_true, ↓reduceIte] at h1 ⊢
    refine IC_go ttOk mixed (fn := Try.f56) (by kernel_rfl) (by rfl) (by rfl) (by kernel_rfl) (by rfl) (by first | rfl | simp [cln, clns, clnB, ints_cln, strs_cln, odc_cln, u8s_cln, bools_cln, rdB, vI, vH, vS, vG, vO, vOs, vB, vC, vZ]) (by first | rfl | simp [cln, clns, clnB, ints_cln, strs_cln, odc_cln, u8s_cln, bools_cln, rdB, vI, vH, vS, vG, vO, vOs, vB, vC, vZ]) ?_
    simp only [Try.f56, W1, W2, TTs, implies_true, ↓addR_none, ↓reduceIte, reduceCtorEq, Nat.reduceEqDiff, Nat.reduceAdd, Nat.reduceSub, Nat.reduceMul, Nat.reduceLT, Nat.reduceLeDiff, Nat.reduceBEq, List.reduceReplicate, Int.reduceNeg, Int.reduceToNat]
    (refine call_pure (h1) (by first | exact subs_refl _ | (simp only [W1, W2, TTs, implies_true, ↓addR_none, ↓reduceIte, reduceCtorEq, Nat.reduceEqDiff, Nat.reduceAdd, Nat.reduceSub, Nat.reduceMul, Nat.reduceLT, Nat.reduceLeDiff, Nat.reduceBEq, List.reduceReplicate, Int.reduceNeg, Int.reduceToNat]; done) | (simp only [W1, W2, TTs, implies_true, ↓addR_none, ↓reduceIte, reduceCtorEq, Nat.reduceEqDiff, Nat.reduceAdd, Nat.reduceSub, Nat.reduceMul, Nat.reduceLT, Nat.reduceLeDiff, Nat.reduceBEq, List.reduceReplicate, Int.reduceNeg, Int.reduceToNat]; omega)) (by first | rfl | simp only [W1, W2, TTs, implies_true, ↓addR_none, ↓reduceIte, reduceCtorEq, Nat.reduceEqDiff, Nat.reduceAdd, Nat.reduceSub, Nat.reduceMul, Nat.reduceLT, Nat.reduceLeDiff, Nat.reduceBEq, List.reduceReplicate, Int.reduceNeg, Int.reduceToNat]) ?_; simp only [W1, W2, TTs, implies_true, ↓addR_none, ↓reduceIte, reduceCtorEq, Nat.reduceEqDiff, Nat.reduceAdd, Nat.reduceSub, Nat.reduceMul, Nat.reduceLT, Nat.reduceLeDiff, Nat.reduceBEq, List.reduceReplicate, Int.reduceNeg, Int.reduceToNat, hzero, szero]; (repeat' first | ((with_reducible refine drawOK_of ?_); as_aux_lemma => kernel_rfl) | assumption | apply And.intro | intro); all_goals first | omega | (refine Eq.symm ?_; first | (simp_all [hzero]; done) | (simp_all [hzero]; omega) | (simp [hzero]; omega)) | skip)
  · simp only [hv, ↓reduceIte] at h1 ⊢
    have hv' : 1 ≤ c ∧ c ≤ 8 ∧ 1 ≤ r ∧ r ≤ 3 := by simpa [okSize] using hv
    obtain ⟨n, rfl⟩ : ∃ n : Nat, c = n := ⟨c.toNat, by omega⟩
    obtain ⟨m, rfl⟩ : ∃ m : Nat, r = m := ⟨r.toNat, by omega⟩
    refine IC_go ttOk mixed (fn := Try.f56) (by kernel_rfl) (by rfl) (by rfl) (by kernel_rfl) (by rfl) (by first | rfl | simp [cln, clns, clnB, ints_cln, strs_cln, odc_cln, u8s_cln, bools_cln, rdB, vI, vH, vS, vG, vO, vOs, vB, vC, vZ]) (by first | rfl | simp [cln, clns, clnB, ints_cln, strs_cln, odc_cln, u8s_cln, bools_cln, rdB, vI, vH, vS, vG, vO, vOs, vB, vC, vZ]) ?_
    simp only [Try.f56, W1, W2, TTs, implies_true, ↓addR_none, ↓reduceIte, reduceCtorEq, Nat.reduceEqDiff, Nat.reduceAdd, Nat.reduceSub, Nat.reduceMul, Nat.reduceLT, Nat.reduceLeDiff, Nat.reduceBEq, List.reduceReplicate, Int.reduceNeg, Int.reduceToNat]
    (refine call_pure (h1) (by first | exact subs_refl _ | (simp only [W1, W2, TTs, implies_true, ↓addR_none, ↓reduceIte, reduceCtorEq, Nat.reduceEqDiff, Nat.reduceAdd, Nat.reduceSub, Nat.reduceMul, Nat.reduceLT, Nat.reduceLeDiff, Nat.reduceBEq, List.reduceReplicate, Int.reduceNeg, Int.reduceToNat]; done) | (simp only [W1, W2, TTs, implies_true, ↓addR_none, ↓reduceIte, reduceCtorEq, Nat.reduceEqDiff, Nat.reduceAdd, Nat.reduceSub, Nat.reduceMul, Nat.reduceLT, Nat.reduceLeDiff, Nat.reduceBEq, List.reduceReplicate, Int.reduceNeg, Int.reduceToNat]; omega)) (by first | rfl | simp only [W1, W2, TTs, implies_true, ↓addR_none, ↓reduceIte, reduceCtorEq, Nat.reduceEqDiff, Nat.reduceAdd, Nat.reduceSub, Nat.reduceMul, Nat.reduceLT, Nat.reduceLeDiff, Nat.reduceBEq, List.reduceReplicate, Int.reduceNeg, Int.reduceToNat]) ?_; simp only [W1, W2, TTs, implies_true, ↓addR_none, ↓reduceIte, reduceCtorEq, Nat.reduceEqDiff, Nat.reduceAdd, Nat.reduceSub, Nat.reduceMul, Nat.reduceLT, Nat.reduceLeDiff, Nat.reduceBEq, List.reduceReplicate, Int.reduceNeg, Int.reduceToNat, newHeap]; (repeat' first | ((with_reducible refine drawOK_of ?_); as_aux_lemma => kernel_rfl) | assumption | apply And.intro | intro); all_goals first | omega | (refine Eq.symm ?_; first | (simp_all [hzero]; done) | (simp_all [hzero]; omega) | (simp [hzero]; omega)) | skip)
    refine loop_intro (ι := Nat) (fun i => ([(0, .i .i64 n), (4, .p 0 0 4), (8, .p 1 0 4), (9, .i .i64 i)], .cells 4 [.nilS, .nilS, .nilS, .nilS] :: (match i with
      | 0 => [.cells 4 [vI false (List.replicate n (-1)), vI false (List.replicate n (-1)), vI false (List.replicate m (-1)), .nilS]]
      | i + 1 => [.cells 4 [vI false (List.replicate n (-1)), vI false (List.replicate n (-1)), vI false (List.replicate m (-1)), .sl 2 0 (i + 1) (i + 1)], .cells 1 (ints (upto (i + 1)))])))
      (fun i => i ≤ n) (fun i => n - i) 0 (by simp) (by refine Wk_mk [0, 2] (by decide) (by rfl) (by simp) (by simp only [W1, W2, TTs, implies_true, ↓addR_none, ↓reduceIte, reduceCtorEq, Nat.reduceEqDiff, Nat.reduceAdd, Nat.reduceSub, Nat.reduceMul, Nat.reduceLT, Nat.reduceLeDiff, Nat.reduceBEq, List.reduceReplicate, Int.reduceNeg, Int.reduceToNat]) (by simp only [W1, W2, TTs, implies_true, ↓addR_none, ↓reduceIte, reduceCtorEq, Nat.reduceEqDiff, Nat.reduceAdd, Nat.reduceSub, Nat.reduceMul, Nat.reduceLT, Nat.reduceLeDiff, Nat.reduceBEq, List.reduceReplicate, Int.reduceNeg, Int.reduceToNat]) (by simp only [W1, W2, TTs, implies_true, ↓addR_none, ↓reduceIte, reduceCtorEq, Nat.reduceEqDiff, Nat.reduceAdd, Nat.reduceSub, Nat.reduceMul, Nat.reduceLT, Nat.reduceLeDiff, Nat.reduceBEq, List.reduceReplicate, Int.reduceNeg, Int.reduceToNat])) ?_
    intro i hi
    cases i with
    | zero =>
      have w1 : IntKind.i64.wrap 1 = 1 := by decide
      have e1 : upto 1 = [0] := rfl
      simp only [W1, W2, TTs, implies_true, ↓addR_none, ↓reduceIte, reduceCtorEq, Nat.reduceEqDiff, Nat.reduceAdd, Nat.reduceSub, Nat.reduceMul, Nat.reduceLT, Nat.reduceLeDiff, Nat.reduceBEq, List.reduceReplicate, Int.reduceNeg, Int.reduceToNat, Int.zero_add, w1]
      (repeat' first | ((with_reducible refine drawOK_of ?_); as_aux_lemma => kernel_rfl) | assumption | apply And.intro | intro)
      · exact ⟨1, by omega, by omega, by refine Wk_mk [0, 1, 3] (by decide) (by rfl) (by simp) (by simp only [W1, W2, TTs, implies_true, ↓addR_none, ↓reduceIte, reduceCtorEq, Nat.reduceEqDiff, Nat.reduceAdd, Nat.reduceSub, Nat.reduceMul, Nat.reduceLT, Nat.reduceLeDiff, Nat.reduceBEq, List.reduceReplicate, Int.reduceNeg, Int.reduceToNat, e1, ints_cons]) (by simp only [W1, W2, TTs, implies_true, ↓addR_none, ↓reduceIte, reduceCtorEq, Nat.reduceEqDiff, Nat.reduceAdd, Nat.reduceSub, Nat.reduceMul, Nat.reduceLT, Nat.reduceLeDiff, Nat.reduceBEq, List.reduceReplicate, Int.reduceNeg, Int.reduceToNat, e1, ints_cons]) (by simp only [W1, W2, TTs, implies_true, ↓addR_none, ↓reduceIte, reduceCtorEq, Nat.reduceEqDiff, Nat.reduceAdd, Nat.reduceSub, Nat.reduceMul, Nat.reduceLT, Nat.reduceLeDiff, Nat.reduceBEq, List.reduceReplicate, Int.reduceNeg, Int.reduceToNat, e1, ints_cons])⟩
      all_goals exfalso; omega
    | succ i =>
      simp only [W1, W2, TTs, implies_true, ↓addR_none, ↓reduceIte, reduceCtorEq, Nat.reduceEqDiff, Nat.reduceAdd, Nat.reduceSub, Nat.reduceMul, Nat.reduceLT, Nat.reduceLeDiff, Nat.reduceBEq, List.reduceReplicate, Int.reduceNeg, Int.reduceToNat, wrap_succ (i + 1) (by omega)]
      (repeat' first | ((with_reducible refine drawOK_of ?_); as_aux_lemma => kernel_rfl) | assumption | apply And.intro | intro)
      · rw [upto_len]
      · omega
      · exact ⟨i + 1 + 1, by omega, by omega, by refine Wk_mk [0, 1, 2] (by decide) (by rfl) (by simp) (by simp only [W1, W2, TTs, implies_true, ↓addR_none, ↓reduceIte, reduceCtorEq, Nat.reduceEqDiff, Nat.reduceAdd, Nat.reduceSub, Nat.reduceMul, Nat.reduceLT, Nat.reduceLeDiff, Nat.reduceBEq, List.reduceReplicate, Int.reduceNeg, Int.reduceToNat, upto_succ (i + 1)]) (by simp only [W1, W2, TTs, implies_true, ↓addR_none, ↓reduceIte, reduceCtorEq, Nat.reduceEqDiff, Nat.reduceAdd, Nat.reduceSub, Nat.reduceMul, Nat.reduceLT, Nat.reduceLeDiff, Nat.reduceBEq, List.reduceReplicate, Int.reduceNeg, Int.reduceToNat, upto_succ (i + 1)]) (by simp only [W1, W2, TTs, implies_true, ↓addR_none, ↓reduceIte, reduceCtorEq, Nat.reduceEqDiff, Nat.reduceAdd, Nat.reduceSub, Nat.reduceMul, Nat.reduceLT, Nat.reduceLeDiff, Nat.reduceBEq, List.reduceReplicate, Int.reduceNeg, Int.reduceToNat, upto_succ (i + 1)])⟩
      all_goals obtain rfl : i + 1 = n := by omega
      all_goals first | (simp [newStore, newHeap, upto_len]; done) | (simp [newStore, newHeap, upto_len]; exact sub_refl _)

theorem lops_nil (n : Int) : lops [] n = true := rfl
theorem replicate_all_ptOk (n k : Nat) : (List.replicate k (-1 : Int)).all (ptOk n) = true ∨ n = 0 ∧ True := by
  by_cases h : n = 0
  · exact .inr ⟨h, trivial⟩
  · left
    rw [List.all_eq_true]
    intro x hx
    rw [List.mem_replicate] at hx
    rw [hx.2]; simp [ptOk]; omega
theorem svalid_new {c r : Int} (h : okSize c r = true) : svalid (newStore c r) = true := by
  have hv : 1 ≤ c ∧ c ≤ 8 ∧ 1 ≤ r ∧ r ≤ 3 := by simpa [okSize] using h
  obtain ⟨n, rfl⟩ : ∃ n : Nat, c = n := ⟨c.toNat, by omega⟩
  obtain ⟨m, rfl⟩ : ∃ m : Nat, r = m := ⟨r.toNat, by omega⟩
  have hn : n = 1 ∨ n = 2 ∨ n = 3 ∨ n = 4 ∨ n = 5 ∨ n = 6 ∨ n = 7 ∨ n = 8 := by omega
  have hm : m = 1 ∨ m = 2 ∨ m = 3 := by omega
  rcases hn with rfl | rfl | rfl | rfl | rfl | rfl | rfl | rfl <;> rcases hm with rfl | rfl | rfl <;> decide

def newState (c r : Int) : ZD := ⟨newBoth (newStore c r) [], true⟩
def zzero : ZD := ⟨bzero, true⟩
theorem svalid_zero : svalid szero = false := by decide

end Go.Proofs.Ytdacfgclclpooaa
