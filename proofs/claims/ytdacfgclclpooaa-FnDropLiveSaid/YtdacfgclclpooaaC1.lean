/- Contracts of small functions. Conditions: none. -/
import Derived.Test.YtdacfgclclpooaaCbY
import Derived.Test.YtdacfgclclpooaaCbT
namespace Go.Proofs.Ytdacfgclclpooaa
open Go Go.RowKit
set_option linter.unusedVariables false
set_option linter.unusedSimpArgs false
noncomputable abbrev PP : Program := Try.prog
theorem mixed : PP.follows .mixedOrders = true := by kernel_rfl
attribute [local irreducible] LoopP CallP Plain Exec Gd runS awp KR Ret RR LoopK SeqC BlkK CondP sub
variable {G : Nat → AV}

theorem ic_s_l1Points (a b : Int) : IC PP G 67 [.i .i64 a, .i .i64 b] [] (.b (decide (-1 ≤ a ∧ a < b))) [] := by
  refine IC_go ttOk mixed (fn := Try.f67) (by kernel_rfl) (by rfl) (by rfl) (by kernel_rfl) (by rfl) (by first | rfl | simp [cln, clns, clnB, ints_cln, strs_cln, odc_cln, u8s_cln, bools_cln, rdB, vI, vH, vS, vG, vO, vOs, vB, vC, vZ]) (by first | rfl | simp [cln, clns, clnB, ints_cln, strs_cln, odc_cln, u8s_cln, bools_cln, rdB, vI, vH, vS, vG, vO, vOs, vB, vC, vZ]) ?_
  simp only [Try.f67, W1, W2, TTs, implies_true, ↓addR_none, ↓reduceIte, reduceCtorEq, Nat.reduceEqDiff, Nat.reduceAdd, Nat.reduceSub, Nat.reduceMul, Nat.reduceLT, Nat.reduceLeDiff, Nat.reduceBEq, List.reduceReplicate, Int.reduceNeg, Int.reduceToNat]
  refine ⟨fun h => ?_, fun h => ?_⟩ <;> simp [h]

theorem ic_s_l1PointsN (p : Int) (n : Nat) : IC PP G 67 [.i .i64 p, .i .i64 n] [] (.b (ptOk n p)) [] := ic_s_l1Points p n

theorem ic_s_l1Many (n : Nat) (hn : n ≤ 4294967296) : IC PP G 70 [.i .i64 n] [] (.sl 0 0 n n) [.cells 1 (ints (List.replicate n (-1)))] := by
  refine IC_go ttOk mixed (fn := Try.f70) (by kernel_rfl) (by rfl) (by rfl) (by kernel_rfl) (by rfl) (by first | rfl | simp [cln, clns, clnB, ints_cln, strs_cln, odc_cln, u8s_cln, bools_cln, rdB, vI, vH, vS, vG, vO, vOs, vB, vC, vZ]) (by first | rfl | simp [cln, clns, clnB, ints_cln, strs_cln, odc_cln, u8s_cln, bools_cln, rdB, vI, vH, vS, vG, vO, vOs, vB, vC, vZ]) ?_
  simp only [Try.f70, W1, W2, TTs, implies_true, ↓addR_none, ↓reduceIte, reduceCtorEq, Nat.reduceEqDiff, Nat.reduceAdd, Nat.reduceSub, Nat.reduceMul, Nat.reduceLT, Nat.reduceLeDiff, Nat.reduceBEq, List.reduceReplicate, Int.reduceNeg, Int.reduceToNat]
  refine loop_intro (ι := Nat) (fun i => ([(0, .i .i64 n), (3, .sl 0 0 i i), (4, .i .i64 i)], [.cells 1 (ints (List.replicate i (-1)))])) (fun i => i ≤ n) (fun i => n - i) 0 (by omega) ?_ ?_
  · refine Wk_mk [0] (by decide) (by rfl) (by simp) (by simp only [W1, W2, TTs, implies_true, ↓addR_none, ↓reduceIte, reduceCtorEq, Nat.reduceEqDiff, Nat.reduceAdd, Nat.reduceSub, Nat.reduceMul, Nat.reduceLT, Nat.reduceLeDiff, Nat.reduceBEq, List.reduceReplicate, Int.reduceNeg, Int.reduceToNat]) (by simp only [W1, W2, TTs, implies_true, ↓addR_none, ↓reduceIte, reduceCtorEq, Nat.reduceEqDiff, Nat.reduceAdd, Nat.reduceSub, Nat.reduceMul, Nat.reduceLT, Nat.reduceLeDiff, Nat.reduceBEq, List.reduceReplicate, Int.reduceNeg, Int.reduceToNat]) (by simp only [W1, W2, TTs, implies_true, ↓addR_none, ↓reduceIte, reduceCtorEq, Nat.reduceEqDiff, Nat.reduceAdd, Nat.reduceSub, Nat.reduceMul, Nat.reduceLT, Nat.reduceLeDiff, Nat.reduceBEq, List.reduceReplicate, Int.reduceNeg, Int.reduceToNat])
  · intro i hi
    simp only [W1, W2, TTs, implies_true, ↓addR_none, ↓reduceIte, reduceCtorEq, Nat.reduceEqDiff, Nat.reduceAdd, Nat.reduceSub, Nat.reduceMul, Nat.reduceLT, Nat.reduceLeDiff, Nat.reduceBEq, List.reduceReplicate, Int.reduceNeg, Int.reduceToNat, wrap_succ i (by omega)]
    refine ⟨fun h => ?_, fun h => ?_⟩
    · skip
      refine ⟨by omega, i + 1, by omega, by omega, ?_⟩
      refine Wk_mk [0] (by decide) (by rfl) (by simp) (by simp only [W1, W2, TTs, implies_true, ↓addR_none, ↓reduceIte, reduceCtorEq, Nat.reduceEqDiff, Nat.reduceAdd, Nat.reduceSub, Nat.reduceMul, Nat.reduceLT, Nat.reduceLeDiff, Nat.reduceBEq, List.reduceReplicate, Int.reduceNeg, Int.reduceToNat, List.replicate_succ']) (by simp only [W1, W2, TTs, implies_true, ↓addR_none, ↓reduceIte, reduceCtorEq, Nat.reduceEqDiff, Nat.reduceAdd, Nat.reduceSub, Nat.reduceMul, Nat.reduceLT, Nat.reduceLeDiff, Nat.reduceBEq, List.reduceReplicate, Int.reduceNeg, Int.reduceToNat, List.replicate_succ']) (by simp only [W1, W2, TTs, implies_true, ↓addR_none, ↓reduceIte, reduceCtorEq, Nat.reduceEqDiff, Nat.reduceAdd, Nat.reduceSub, Nat.reduceMul, Nat.reduceLT, Nat.reduceLeDiff, Nat.reduceBEq, List.reduceReplicate, Int.reduceNeg, Int.reduceToNat, List.replicate_succ'])
    · obtain rfl : i = n := by omega
      refine Ret_mk [0] (by decide) (by rfl) (by simp only [W1, W2, TTs, implies_true, ↓addR_none, ↓reduceIte, reduceCtorEq, Nat.reduceEqDiff, Nat.reduceAdd, Nat.reduceSub, Nat.reduceMul, Nat.reduceLT, Nat.reduceLeDiff, Nat.reduceBEq, List.reduceReplicate, Int.reduceNeg, Int.reduceToNat]) (by simp only [W1, W2, TTs, implies_true, ↓addR_none, ↓reduceIte, reduceCtorEq, Nat.reduceEqDiff, Nat.reduceAdd, Nat.reduceSub, Nat.reduceMul, Nat.reduceLT, Nat.reduceLeDiff, Nat.reduceBEq, List.reduceReplicate, Int.reduceNeg, Int.reduceToNat]) (by simp only [W1, W2, TTs, implies_true, ↓addR_none, ↓reduceIte, reduceCtorEq, Nat.reduceEqDiff, Nat.reduceAdd, Nat.reduceSub, Nat.reduceMul, Nat.reduceLT, Nat.reduceLeDiff, Nat.reduceBEq, List.reduceReplicate, Int.reduceNeg, Int.reduceToNat])

theorem ic_s_HeapValid (h : HD) : IC PP G 60 [vH true h] [] (.b (hvalid h)) [] := by
  refine IC_go ttOk mixed (fn := Try.f60) (by kernel_rfl) (by rfl) (by rfl) (by kernel_rfl) (by rfl) (by first | rfl | simp [cln, clns, clnB, ints_cln, strs_cln, odc_cln, u8s_cln, bools_cln, rdB, vI, vH, vS, vG, vO, vOs, vB, vC, vZ]) (by first | rfl | simp [cln, clns, clnB, ints_cln, strs_cln, odc_cln, u8s_cln, bools_cln, rdB, vI, vH, vS, vG, vO, vOs, vB, vC, vZ]) ?_
  simp only [Try.f60, W1, W2, TTs, implies_true, ↓addR_none, ↓reduceIte, reduceCtorEq, Nat.reduceEqDiff, Nat.reduceAdd, Nat.reduceSub, Nat.reduceMul, Nat.reduceLT, Nat.reduceLeDiff, Nat.reduceBEq, List.reduceReplicate, Int.reduceNeg, Int.reduceToNat]
  (repeat' first | ((with_reducible refine drawOK_of ?_); as_aux_lemma => kernel_rfl) | assumption | apply And.intro | intro)
  case left.left.left.left.right =>
    rename_i h1 h2 h3 h4 h5
    refine loop_intro (ι := Nat) (fun i => ([(1, .p 0 0 3), (3, .i .i64 h.l.length), (4, .i .i64 i)], [.cells 1 [vI true h.l, vI true h.r, vI true h.t]])) (fun i => i ≤ h.l.length ∧ (h.l.take i).all (ptOk h.l.length) = true ∧ (h.r.take i).all (ptOk h.l.length) = true) (fun i => h.l.length - i) 0 (by simp) (by refine Wk_mk [0] (by decide) (by rfl) (by simp) (by simp only [W1, W2, TTs, implies_true, ↓addR_none, ↓reduceIte, reduceCtorEq, Nat.reduceEqDiff, Nat.reduceAdd, Nat.reduceSub, Nat.reduceMul, Nat.reduceLT, Nat.reduceLeDiff, Nat.reduceBEq, List.reduceReplicate, Int.reduceNeg, Int.reduceToNat]) (by simp only [W1, W2, TTs, implies_true, ↓addR_none, ↓reduceIte, reduceCtorEq, Nat.reduceEqDiff, Nat.reduceAdd, Nat.reduceSub, Nat.reduceMul, Nat.reduceLT, Nat.reduceLeDiff, Nat.reduceBEq, List.reduceReplicate, Int.reduceNeg, Int.reduceToNat]) (by simp only [W1, W2, TTs, implies_true, ↓addR_none, ↓reduceIte, reduceCtorEq, Nat.reduceEqDiff, Nat.reduceAdd, Nat.reduceSub, Nat.reduceMul, Nat.reduceLT, Nat.reduceLeDiff, Nat.reduceBEq, List.reduceReplicate, Int.reduceNeg, Int.reduceToNat])) ?_
    intro i hi
    simp only [W1, W2, TTs, implies_true, ↓addR_none, ↓reduceIte, reduceCtorEq, Nat.reduceEqDiff, Nat.reduceAdd, Nat.reduceSub, Nat.reduceMul, Nat.reduceLT, Nat.reduceLeDiff, Nat.reduceBEq, List.reduceReplicate, Int.reduceNeg, Int.reduceToNat]
    (repeat' first | ((with_reducible refine drawOK_of ?_); as_aux_lemma => kernel_rfl) | assumption | apply And.intro | intro)
    · refine call_pure (ic_s_l1PointsN _ _) (by first | exact subs_refl _ | (simp only [W1, W2, TTs, implies_true, ↓addR_none, ↓reduceIte, reduceCtorEq, Nat.reduceEqDiff, Nat.reduceAdd, Nat.reduceSub, Nat.reduceMul, Nat.reduceLT, Nat.reduceLeDiff, Nat.reduceBEq, List.reduceReplicate, Int.reduceNeg, Int.reduceToNat]; done) | (simp only [W1, W2, TTs, implies_true, ↓addR_none, ↓reduceIte, reduceCtorEq, Nat.reduceEqDiff, Nat.reduceAdd, Nat.reduceSub, Nat.reduceMul, Nat.reduceLT, Nat.reduceLeDiff, Nat.reduceBEq, List.reduceReplicate, Int.reduceNeg, Int.reduceToNat]; omega)) (by first | rfl | simp only [W1, W2, TTs, implies_true, ↓addR_none, ↓reduceIte, reduceCtorEq, Nat.reduceEqDiff, Nat.reduceAdd, Nat.reduceSub, Nat.reduceMul, Nat.reduceLT, Nat.reduceLeDiff, Nat.reduceBEq, List.reduceReplicate, Int.reduceNeg, Int.reduceToNat]) ?_
      simp only [W1, W2, TTs, implies_true, ↓addR_none, ↓reduceIte, reduceCtorEq, Nat.reduceEqDiff, Nat.reduceAdd, Nat.reduceSub, Nat.reduceMul, Nat.reduceLT, Nat.reduceLeDiff, Nat.reduceBEq, List.reduceReplicate, Int.reduceNeg, Int.reduceToNat, wrap_succ i (by omega)]
      (repeat' first | ((with_reducible refine drawOK_of ?_); as_aux_lemma => kernel_rfl) | assumption | apply And.intro | intro)
      · omega
      · omega
      · refine call_pure (ic_s_l1PointsN _ _) (by first | exact subs_refl _ | (simp only [W1, W2, TTs, implies_true, ↓addR_none, ↓reduceIte, reduceCtorEq, Nat.reduceEqDiff, Nat.reduceAdd, Nat.reduceSub, Nat.reduceMul, Nat.reduceLT, Nat.reduceLeDiff, Nat.reduceBEq, List.reduceReplicate, Int.reduceNeg, Int.reduceToNat]; done) | (simp only [W1, W2, TTs, implies_true, ↓addR_none, ↓reduceIte, reduceCtorEq, Nat.reduceEqDiff, Nat.reduceAdd, Nat.reduceSub, Nat.reduceMul, Nat.reduceLT, Nat.reduceLeDiff, Nat.reduceBEq, List.reduceReplicate, Int.reduceNeg, Int.reduceToNat]; omega)) (by first | rfl | simp only [W1, W2, TTs, implies_true, ↓addR_none, ↓reduceIte, reduceCtorEq, Nat.reduceEqDiff, Nat.reduceAdd, Nat.reduceSub, Nat.reduceMul, Nat.reduceLT, Nat.reduceLeDiff, Nat.reduceBEq, List.reduceReplicate, Int.reduceNeg, Int.reduceToNat]) ?_
        simp only [W1, W2, TTs, implies_true, ↓addR_none, ↓reduceIte, reduceCtorEq, Nat.reduceEqDiff, Nat.reduceAdd, Nat.reduceSub, Nat.reduceMul, Nat.reduceLT, Nat.reduceLeDiff, Nat.reduceBEq, List.reduceReplicate, Int.reduceNeg, Int.reduceToNat, wrap_succ i (by omega)]
        (repeat' first | ((with_reducible refine drawOK_of ?_); as_aux_lemma => kernel_rfl) | assumption | apply And.intro | intro)
        · rename_i k1 k2 k3
          simp [hvalid, all_bad (l := h.r) (by omega) 0 k3]
        · rename_i k1 k2 k3
          refine ⟨i + 1, ⟨by omega, ?_, ?_⟩, by omega, ?_⟩
          · rw [all_take_succ (by omega) 0, hi.2.1, k2]; rfl
          · rw [all_take_succ (by omega) 0, hi.2.2, k3]; rfl
          · refine Wk_mk [0] (by decide) (by rfl) (by simp) (by simp only [W1, W2, TTs, implies_true, ↓addR_none, ↓reduceIte, reduceCtorEq, Nat.reduceEqDiff, Nat.reduceAdd, Nat.reduceSub, Nat.reduceMul, Nat.reduceLT, Nat.reduceLeDiff, Nat.reduceBEq, List.reduceReplicate, Int.reduceNeg, Int.reduceToNat]) (by simp only [W1, W2, TTs, implies_true, ↓addR_none, ↓reduceIte, reduceCtorEq, Nat.reduceEqDiff, Nat.reduceAdd, Nat.reduceSub, Nat.reduceMul, Nat.reduceLT, Nat.reduceLeDiff, Nat.reduceBEq, List.reduceReplicate, Int.reduceNeg, Int.reduceToNat]) (by simp only [W1, W2, TTs, implies_true, ↓addR_none, ↓reduceIte, reduceCtorEq, Nat.reduceEqDiff, Nat.reduceAdd, Nat.reduceSub, Nat.reduceMul, Nat.reduceLT, Nat.reduceLeDiff, Nat.reduceBEq, List.reduceReplicate, Int.reduceNeg, Int.reduceToNat])
      · rename_i k1 k2
        simp [hvalid, all_bad (l := h.l) (by omega) 0 k2]
    · rename_i k0
      have hl : h.l.all (ptOk h.l.length) = true := by rw [← all_take_all (n := i) (by omega)]; exact hi.2.1
      have hr : h.r.all (ptOk h.l.length) = true := by rw [← all_take_all (n := i) (by omega)]; exact hi.2.2
      refine loop_intro (ι := Nat) (fun i => ([(1, .p 0 0 3), (3, .i .i64 h.l.length), (5, .i .i64 i)], [.cells 1 [vI true h.l, vI true h.r, vI true h.t]])) (fun i => i ≤ h.t.length ∧ (h.t.take i).all (ptOk h.l.length) = true) (fun i => h.t.length - i) 0 (by simp) (by refine Wk_mk [0] (by decide) (by rfl) (by simp) (by simp only [W1, W2, TTs, implies_true, ↓addR_none, ↓reduceIte, reduceCtorEq, Nat.reduceEqDiff, Nat.reduceAdd, Nat.reduceSub, Nat.reduceMul, Nat.reduceLT, Nat.reduceLeDiff, Nat.reduceBEq, List.reduceReplicate, Int.reduceNeg, Int.reduceToNat]) (by simp only [W1, W2, TTs, implies_true, ↓addR_none, ↓reduceIte, reduceCtorEq, Nat.reduceEqDiff, Nat.reduceAdd, Nat.reduceSub, Nat.reduceMul, Nat.reduceLT, Nat.reduceLeDiff, Nat.reduceBEq, List.reduceReplicate, Int.reduceNeg, Int.reduceToNat]) (by simp only [W1, W2, TTs, implies_true, ↓addR_none, ↓reduceIte, reduceCtorEq, Nat.reduceEqDiff, Nat.reduceAdd, Nat.reduceSub, Nat.reduceMul, Nat.reduceLT, Nat.reduceLeDiff, Nat.reduceBEq, List.reduceReplicate, Int.reduceNeg, Int.reduceToNat])) ?_
      intro i hi
      simp only [W1, W2, TTs, implies_true, ↓addR_none, ↓reduceIte, reduceCtorEq, Nat.reduceEqDiff, Nat.reduceAdd, Nat.reduceSub, Nat.reduceMul, Nat.reduceLT, Nat.reduceLeDiff, Nat.reduceBEq, List.reduceReplicate, Int.reduceNeg, Int.reduceToNat]
      (repeat' first | ((with_reducible refine drawOK_of ?_); as_aux_lemma => kernel_rfl) | assumption | apply And.intro | intro)
      · refine call_pure (ic_s_l1PointsN _ _) (by first | exact subs_refl _ | (simp only [W1, W2, TTs, implies_true, ↓addR_none, ↓reduceIte, reduceCtorEq, Nat.reduceEqDiff, Nat.reduceAdd, Nat.reduceSub, Nat.reduceMul, Nat.reduceLT, Nat.reduceLeDiff, Nat.reduceBEq, List.reduceReplicate, Int.reduceNeg, Int.reduceToNat]; done) | (simp only [W1, W2, TTs, implies_true, ↓addR_none, ↓reduceIte, reduceCtorEq, Nat.reduceEqDiff, Nat.reduceAdd, Nat.reduceSub, Nat.reduceMul, Nat.reduceLT, Nat.reduceLeDiff, Nat.reduceBEq, List.reduceReplicate, Int.reduceNeg, Int.reduceToNat]; omega)) (by first | rfl | simp only [W1, W2, TTs, implies_true, ↓addR_none, ↓reduceIte, reduceCtorEq, Nat.reduceEqDiff, Nat.reduceAdd, Nat.reduceSub, Nat.reduceMul, Nat.reduceLT, Nat.reduceLeDiff, Nat.reduceBEq, List.reduceReplicate, Int.reduceNeg, Int.reduceToNat]) ?_
        simp only [W1, W2, TTs, implies_true, ↓addR_none, ↓reduceIte, reduceCtorEq, Nat.reduceEqDiff, Nat.reduceAdd, Nat.reduceSub, Nat.reduceMul, Nat.reduceLT, Nat.reduceLeDiff, Nat.reduceBEq, List.reduceReplicate, Int.reduceNeg, Int.reduceToNat, wrap_succ i (by omega)]
        (repeat' first | ((with_reducible refine drawOK_of ?_); as_aux_lemma => kernel_rfl) | assumption | apply And.intro | intro)
        · rename_i k2
          simp [hvalid, all_bad (l := h.t) (by omega) 0 k2]
        · rename_i k2
          refine ⟨i + 1, ⟨by omega, ?_⟩, by omega, ?_⟩
          · rw [all_take_succ (by omega) 0, hi.2, k2]; rfl
          · refine Wk_mk [0] (by decide) (by rfl) (by simp) (by simp only [W1, W2, TTs, implies_true, ↓addR_none, ↓reduceIte, reduceCtorEq, Nat.reduceEqDiff, Nat.reduceAdd, Nat.reduceSub, Nat.reduceMul, Nat.reduceLT, Nat.reduceLeDiff, Nat.reduceBEq, List.reduceReplicate, Int.reduceNeg, Int.reduceToNat]) (by simp only [W1, W2, TTs, implies_true, ↓addR_none, ↓reduceIte, reduceCtorEq, Nat.reduceEqDiff, Nat.reduceAdd, Nat.reduceSub, Nat.reduceMul, Nat.reduceLT, Nat.reduceLeDiff, Nat.reduceBEq, List.reduceReplicate, Int.reduceNeg, Int.reduceToNat]) (by simp only [W1, W2, TTs, implies_true, ↓addR_none, ↓reduceIte, reduceCtorEq, Nat.reduceEqDiff, Nat.reduceAdd, Nat.reduceSub, Nat.reduceMul, Nat.reduceLT, Nat.reduceLeDiff, Nat.reduceBEq, List.reduceReplicate, Int.reduceNeg, Int.reduceToNat])
      · have ht : h.t.all (ptOk h.l.length) = true := by rw [← all_take_all (n := i) (by omega)]; exact hi.2
        simp [hvalid, hl, hr, ht]; omega
  all_goals simp [hvalid]; omega
end Go.Proofs.Ytdacfgclclpooaa
