/- Contracts of the program's distances, reach and order. Conditions: none. -/
import Derived.Test.YtdacfgclclpooaaJ1
namespace Go.Proofs.Ytdacfgclclpooaa
open Go Go.RowKit
set_option linter.unusedVariables false
set_option linter.unusedSimpArgs false
attribute [local irreducible] LoopP CallP Plain Exec Gd runS awp KR Ret RR LoopK SeqC BlkK CondP sub
variable {G : Nat → AV}

def qH (d : QD) : Hp := [.cells 1 [.sl 2 0 d.o.length d.o.length], .cells 1 [.sl 3 0 d.q.length d.q.length], .cells 1 (ints d.o), .cells 1 (ints d.q)]
theorem ic_meet (d : QD) (p far : Int) (hp : p ≠ -1 → 0 ≤ p ∧ p < d.o.length) (hq : d.q.length ≤ 4294967294) : IC PP G 36 [.i .i64 p, .i .i64 far, .p 0 0 1, .p 1 0 1] (qH d) (.tup []) (qH (meetD d p far)) := by
  unfold qH
  by_cases h1 : p = -1
  · have e : meetD d p far = d := by unfold meetD; rw [if_neg (fun h => h.1 h1)]
    rw [e]
    refine IC_go ttOk mixed (fn := Try.f36) (by kernel_rfl) (by rfl) (by rfl) (by kernel_rfl) (by rfl) (by first | rfl | simp [cln, clns, clnB, ints_cln, strs_cln, odc_cln, u8s_cln, bools_cln, rdB, vI, vH, vS, vG, vO, vOs, vB, vC, vZ]) (by first | rfl | simp [cln, clns, clnB, ints_cln, strs_cln, odc_cln, u8s_cln, bools_cln, rdB, vI, vH, vS, vG, vO, vOs, vB, vC, vZ]) ?_
    simp only [Try.f36, W1, W2, TTs, implies_true, ↓addR_none, ↓reduceIte, reduceCtorEq, Nat.reduceEqDiff, Nat.reduceAdd, Nat.reduceSub, Nat.reduceMul, Nat.reduceLT, Nat.reduceLeDiff, Nat.reduceBEq, List.reduceReplicate, Int.reduceNeg, Int.reduceToNat, h1]
    ((repeat' first | ((with_reducible refine drawOK_of ?_); as_aux_lemma => kernel_rfl) | assumption | apply And.intro | intro); try any_goals omega)
    refine Ret_mk [0, 1, 2, 3] (by decide) (by rfl) (by simp only [W1, W2, TTs, implies_true, ↓addR_none, ↓reduceIte, reduceCtorEq, Nat.reduceEqDiff, Nat.reduceAdd, Nat.reduceSub, Nat.reduceMul, Nat.reduceLT, Nat.reduceLeDiff, Nat.reduceBEq, List.reduceReplicate, Int.reduceNeg, Int.reduceToNat]) (by simp only [W1, W2, TTs, implies_true, ↓addR_none, ↓reduceIte, reduceCtorEq, Nat.reduceEqDiff, Nat.reduceAdd, Nat.reduceSub, Nat.reduceMul, Nat.reduceLT, Nat.reduceLeDiff, Nat.reduceBEq, List.reduceReplicate, Int.reduceNeg, Int.reduceToNat]) (by simp only [W1, W2, TTs, implies_true, ↓addR_none, ↓reduceIte, reduceCtorEq, Nat.reduceEqDiff, Nat.reduceAdd, Nat.reduceSub, Nat.reduceMul, Nat.reduceLT, Nat.reduceLeDiff, Nat.reduceBEq, List.reduceReplicate, Int.reduceNeg, Int.reduceToNat])
  · have hp := hp h1
    by_cases h2 : d.o.getD p.toNat 0 = 0
    · have e : meetD d p far = ⟨d.o.set p.toNat far, d.q ++ [p], d.i⟩ := by unfold meetD; rw [if_pos ⟨h1, h2⟩]
      rw [e]
      refine IC_go ttOk mixed (fn := Try.f36) (by kernel_rfl) (by rfl) (by rfl) (by kernel_rfl) (by rfl) (by first | rfl | simp [cln, clns, clnB, ints_cln, strs_cln, odc_cln, u8s_cln, bools_cln, rdB, vI, vH, vS, vG, vO, vOs, vB, vC, vZ]) (by first | rfl | simp [cln, clns, clnB, ints_cln, strs_cln, odc_cln, u8s_cln, bools_cln, rdB, vI, vH, vS, vG, vO, vOs, vB, vC, vZ]) ?_
      simp only [Try.f36, W1, W2, TTs, implies_true, ↓addR_none, ↓reduceIte, reduceCtorEq, Nat.reduceEqDiff, Nat.reduceAdd, Nat.reduceSub, Nat.reduceMul, Nat.reduceLT, Nat.reduceLeDiff, Nat.reduceBEq, List.reduceReplicate, Int.reduceNeg, Int.reduceToNat, h1, h2, List.length_append, decide_false, decide_true]
      ((repeat' first | ((with_reducible refine drawOK_of ?_); as_aux_lemma => kernel_rfl) | assumption | apply And.intro | intro); try any_goals omega)
      refine Ret_mk [0, 1, 2, 3] (by decide) (by rfl) (by simp only [W1, W2, TTs, implies_true, ↓addR_none, ↓reduceIte, reduceCtorEq, Nat.reduceEqDiff, Nat.reduceAdd, Nat.reduceSub, Nat.reduceMul, Nat.reduceLT, Nat.reduceLeDiff, Nat.reduceBEq, List.reduceReplicate, Int.reduceNeg, Int.reduceToNat]) (by simp only [W1, W2, TTs, implies_true, ↓addR_none, ↓reduceIte, reduceCtorEq, Nat.reduceEqDiff, Nat.reduceAdd, Nat.reduceSub, Nat.reduceMul, Nat.reduceLT, Nat.reduceLeDiff, Nat.reduceBEq, List.reduceReplicate, Int.reduceNeg, Int.reduceToNat]) (by simp only [W1, W2, TTs, implies_true, ↓addR_none, ↓reduceIte, reduceCtorEq, Nat.reduceEqDiff, Nat.reduceAdd, Nat.reduceSub, Nat.reduceMul, Nat.reduceLT, Nat.reduceLeDiff, Nat.reduceBEq, List.reduceReplicate, Int.reduceNeg, Int.reduceToNat])
    · have e : meetD d p far = d := by unfold meetD; rw [if_neg (fun h => h2 h.2)]
      rw [e]
      refine IC_go ttOk mixed (fn := Try.f36) (by kernel_rfl) (by rfl) (by rfl) (by kernel_rfl) (by rfl) (by first | rfl | simp [cln, clns, clnB, ints_cln, strs_cln, odc_cln, u8s_cln, bools_cln, rdB, vI, vH, vS, vG, vO, vOs, vB, vC, vZ]) (by first | rfl | simp [cln, clns, clnB, ints_cln, strs_cln, odc_cln, u8s_cln, bools_cln, rdB, vI, vH, vS, vG, vO, vOs, vB, vC, vZ]) ?_
      simp only [Try.f36, W1, W2, TTs, implies_true, ↓addR_none, ↓reduceIte, reduceCtorEq, Nat.reduceEqDiff, Nat.reduceAdd, Nat.reduceSub, Nat.reduceMul, Nat.reduceLT, Nat.reduceLeDiff, Nat.reduceBEq, List.reduceReplicate, Int.reduceNeg, Int.reduceToNat, h1, h2, decide_false, decide_true]
      ((repeat' first | ((with_reducible refine drawOK_of ?_); as_aux_lemma => kernel_rfl) | assumption | apply And.intro | intro); try any_goals omega)
      refine Ret_mk [0, 1, 2, 3] (by decide) (by rfl) (by simp only [W1, W2, TTs, implies_true, ↓addR_none, ↓reduceIte, reduceCtorEq, Nat.reduceEqDiff, Nat.reduceAdd, Nat.reduceSub, Nat.reduceMul, Nat.reduceLT, Nat.reduceLeDiff, Nat.reduceBEq, List.reduceReplicate, Int.reduceNeg, Int.reduceToNat]) (by simp only [W1, W2, TTs, implies_true, ↓addR_none, ↓reduceIte, reduceCtorEq, Nat.reduceEqDiff, Nat.reduceAdd, Nat.reduceSub, Nat.reduceMul, Nat.reduceLT, Nat.reduceLeDiff, Nat.reduceBEq, List.reduceReplicate, Int.reduceNeg, Int.reduceToNat]) (by simp only [W1, W2, TTs, implies_true, ↓addR_none, ↓reduceIte, reduceCtorEq, Nat.reduceEqDiff, Nat.reduceAdd, Nat.reduceSub, Nat.reduceMul, Nat.reduceLT, Nat.reduceLeDiff, Nat.reduceBEq, List.reduceReplicate, Int.reduceNeg, Int.reduceToNat])

theorem ic_distances (h : HD) (hv : hvalid h = true) : IC PP G 24 [vH true h] [] (vI false (dists h)) [] := by
  have hl := hvalid_len hv
  refine IC_go ttOk mixed (fn := Try.f24) (by kernel_rfl) (by rfl) (by rfl) (by kernel_rfl) (by rfl) (by first | rfl | simp [cln, clns, clnB, ints_cln, strs_cln, odc_cln, u8s_cln, bools_cln, rdB, vI, vH, vS, vG, vO, vOs, vB, vC, vZ]) (by first | rfl | simp [cln, clns, clnB, ints_cln, strs_cln, odc_cln, u8s_cln, bools_cln, rdB, vI, vH, vS, vG, vO, vOs, vB, vC, vZ]) ?_
  simp only [Try.f24, W1, W2, TTs, implies_true, ↓addR_none, ↓reduceIte, reduceCtorEq, Nat.reduceEqDiff, Nat.reduceAdd, Nat.reduceSub, Nat.reduceMul, Nat.reduceLT, Nat.reduceLeDiff, Nat.reduceBEq, List.reduceReplicate, Int.reduceNeg, Int.reduceToNat, ints_rep]
  ((repeat' first | ((with_reducible refine drawOK_of ?_); as_aux_lemma => kernel_rfl) | assumption | apply And.intro | intro); try any_goals omega)
  refine loop_intro (ι := Nat) (fun i => ([(1, .p 0 0 3), (3, .p 2 0 1), (4, .p 4 0 1), (5, .fn 36 [.p 2 0 1, .p 4 0 1]), (16, vI true h.t), (17, .i .i64 h.t.length), (18, .i .i64 i)],
    [.cells 1 [vI true h.l, vI true h.r, vI true h.t], .cells 1 (ints (qAt h i).o), .cells 1 [.sl 1 0 (qAt h i).o.length (qAt h i).o.length], .cells 1 (ints (qAt h i).q), .cells 1 [.sl 3 0 (qAt h i).q.length (qAt h i).q.length]])) (fun i => i ≤ h.t.length) (fun i => h.t.length - i) 0 (by omega) ?_ ?_
  · have e1 : (qAt h 0).o = List.replicate h.l.length 0 := rfl
    have e2 : (qAt h 0).q = [] := rfl
    refine Wk_mk [0, 1, 2, 3, 4] (by decide) (by rfl) (by simp) (by simp only [W1, W2, TTs, implies_true, ↓addR_none, ↓reduceIte, reduceCtorEq, Nat.reduceEqDiff, Nat.reduceAdd, Nat.reduceSub, Nat.reduceMul, Nat.reduceLT, Nat.reduceLeDiff, Nat.reduceBEq, List.reduceReplicate, Int.reduceNeg, Int.reduceToNat, e1, e2]) (by simp only [W1, W2, TTs, implies_true, ↓addR_none, ↓reduceIte, reduceCtorEq, Nat.reduceEqDiff, Nat.reduceAdd, Nat.reduceSub, Nat.reduceMul, Nat.reduceLT, Nat.reduceLeDiff, Nat.reduceBEq, List.reduceReplicate, Int.reduceNeg, Int.reduceToNat, e1, e2]) (by simp only [W1, W2, TTs, implies_true, ↓addR_none, ↓reduceIte, reduceCtorEq, Nat.reduceEqDiff, Nat.reduceAdd, Nat.reduceSub, Nat.reduceMul, Nat.reduceLT, Nat.reduceLeDiff, Nat.reduceBEq, List.reduceReplicate, Int.reduceNeg, Int.reduceToNat, e1, e2])
  · intro i hi
    have g := qAt_ok hv i
    have g1 := g.ol
    have g2 := g.len
    simp only [W1, W2, TTs, implies_true, ↓addR_none, ↓reduceIte, reduceCtorEq, Nat.reduceEqDiff, Nat.reduceAdd, Nat.reduceSub, Nat.reduceMul, Nat.reduceLT, Nat.reduceLeDiff, Nat.reduceBEq, List.reduceReplicate, Int.reduceNeg, Int.reduceToNat, wrap_succ i (by omega)]
    ((repeat' first | ((with_reducible refine drawOK_of ?_); as_aux_lemma => kernel_rfl) | assumption | apply And.intro | intro); try any_goals omega)
    · rename_i k1
      have hp := List.all_eq_true.1 (hvalid_all hv).2.2 _ (getD_mem k1)
      simp only [ptOk, decide_eq_true_eq] at hp
      have hm := ic_meet (G := G) (qAt h i) (h.t.getD i 0) 1 (by omega) (by omega)
      have e : qAt h (i + 1) = meetD (qAt h i) (h.t.getD i 0) 1 := by
        unfold qAt; rw [List.take_succ_eq_append_getElem k1, List.foldl_append, getD_lt k1]; rfl
      simp only [qH, ← e] at hm
      (refine call_intro [2, 4, 1, 3] (hm) (by first | (simp only [W1, W2, TTs, implies_true, ↓addR_none, ↓reduceIte, reduceCtorEq, Nat.reduceEqDiff, Nat.reduceAdd, Nat.reduceSub, Nat.reduceMul, Nat.reduceLT, Nat.reduceLeDiff, Nat.reduceBEq, List.reduceReplicate, Int.reduceNeg, Int.reduceToNat]; done) | exact subs_refl _ | (simp only [W1, W2, TTs, implies_true, ↓addR_none, ↓reduceIte, reduceCtorEq, Nat.reduceEqDiff, Nat.reduceAdd, Nat.reduceSub, Nat.reduceMul, Nat.reduceLT, Nat.reduceLeDiff, Nat.reduceBEq, List.reduceReplicate, Int.reduceNeg, Int.reduceToNat]; omega)) (by first | (simp only [W1, W2, TTs, implies_true, ↓addR_none, ↓reduceIte, reduceCtorEq, Nat.reduceEqDiff, Nat.reduceAdd, Nat.reduceSub, Nat.reduceMul, Nat.reduceLT, Nat.reduceLeDiff, Nat.reduceBEq, List.reduceReplicate, Int.reduceNeg, Int.reduceToNat]; done) | rfl) (by decide) (by first | (simp only [W1, W2, TTs, implies_true, ↓addR_none, ↓reduceIte, reduceCtorEq, Nat.reduceEqDiff, Nat.reduceAdd, Nat.reduceSub, Nat.reduceMul, Nat.reduceLT, Nat.reduceLeDiff, Nat.reduceBEq, List.reduceReplicate, Int.reduceNeg, Int.reduceToNat]; done) | (simp; done) | (simp [get]; done)) (by simp) ?_; simp only [W1, W2, TTs, implies_true, ↓addR_none, ↓reduceIte, reduceCtorEq, Nat.reduceEqDiff, Nat.reduceAdd, Nat.reduceSub, Nat.reduceMul, Nat.reduceLT, Nat.reduceLeDiff, Nat.reduceBEq, List.reduceReplicate, Int.reduceNeg, Int.reduceToNat, wrap_succ i (by omega)]; (repeat' first | ((with_reducible refine drawOK_of ?_); as_aux_lemma => kernel_rfl) | assumption | apply And.intro | intro); all_goals first | omega | (refine Eq.symm ?_; first | (simp_all [qH]; done) | (simp_all [qH]; omega) | (simp [qH]; omega)) | skip)
      exact ⟨i + 1, by omega, by omega, by refine Wk_mk [0, 1, 2, 3, 4] (by decide) (by rfl) (by simp) (by simp only [W1, W2, TTs, implies_true, ↓addR_none, ↓reduceIte, reduceCtorEq, Nat.reduceEqDiff, Nat.reduceAdd, Nat.reduceSub, Nat.reduceMul, Nat.reduceLT, Nat.reduceLeDiff, Nat.reduceBEq, List.reduceReplicate, Int.reduceNeg, Int.reduceToNat]) (by simp only [W1, W2, TTs, implies_true, ↓addR_none, ↓reduceIte, reduceCtorEq, Nat.reduceEqDiff, Nat.reduceAdd, Nat.reduceSub, Nat.reduceMul, Nat.reduceLT, Nat.reduceLeDiff, Nat.reduceBEq, List.reduceReplicate, Int.reduceNeg, Int.reduceToNat]) (by simp only [W1, W2, TTs, implies_true, ↓addR_none, ↓reduceIte, reduceCtorEq, Nat.reduceEqDiff, Nat.reduceAdd, Nat.reduceSub, Nat.reduceMul, Nat.reduceLT, Nat.reduceLeDiff, Nat.reduceBEq, List.reduceReplicate, Int.reduceNeg, Int.reduceToNat])⟩
    · rename_i k1
      rw [qAt_end (by omega)]
      refine loop_intro (ι := Nat) (fun k => ([(1, .p 0 0 3), (3, .p 2 0 1), (4, .p 4 0 1), (5, .fn 36 [.p 2 0 1, .p 4 0 1]), (8, .i .i64 k)],
        [.cells 1 [vI true h.l, vI true h.r, vI true h.t], .cells 1 (ints (rep (qStep h) (qStart h) k).o), .cells 1 [.sl 1 0 (rep (qStep h) (qStart h) k).o.length (rep (qStep h) (qStart h) k).o.length], .cells 1 (ints (rep (qStep h) (qStart h) k).q), .cells 1 [.sl 3 0 (rep (qStep h) (qStart h) k).q.length (rep (qStep h) (qStart h) k).q.length]]))
        (fun k => QV h k) (fun k => h.l.length - k) 0 (qv_zero hv) (by refine Wk_mk [0, 1, 2, 3, 4] (by decide) (by rfl) (by simp) (by simp only [W1, W2, TTs, implies_true, ↓addR_none, ↓reduceIte, reduceCtorEq, Nat.reduceEqDiff, Nat.reduceAdd, Nat.reduceSub, Nat.reduceMul, Nat.reduceLT, Nat.reduceLeDiff, Nat.reduceBEq, List.reduceReplicate, Int.reduceNeg, Int.reduceToNat, rep]) (by simp only [W1, W2, TTs, implies_true, ↓addR_none, ↓reduceIte, reduceCtorEq, Nat.reduceEqDiff, Nat.reduceAdd, Nat.reduceSub, Nat.reduceMul, Nat.reduceLT, Nat.reduceLeDiff, Nat.reduceBEq, List.reduceReplicate, Int.reduceNeg, Int.reduceToNat, rep]) (by simp only [W1, W2, TTs, implies_true, ↓addR_none, ↓reduceIte, reduceCtorEq, Nat.reduceEqDiff, Nat.reduceAdd, Nat.reduceSub, Nat.reduceMul, Nat.reduceLT, Nat.reduceLeDiff, Nat.reduceBEq, List.reduceReplicate, Int.reduceNeg, Int.reduceToNat, rep])) ?_
      intro k v
      have hs := qv_step hv v
      have he := qv_end v hl.2.1
      have hk := v.i
      have hn := v.n
      have g := v.g
      have g1 := g.ol
      have g2 := g.len
      have hs1 : rep (qStep h) (qStart h) (k + 1) = qStep h (rep (qStep h) (qStart h) k) := rfl
      generalize rep (qStep h) (qStart h) k = D at *
      have hc : 0 ≤ D.q.getD k 0 ∧ D.q.getD k 0 < h.l.length := by
        by_cases h1 : k < D.q.length
        · exact g.qr _ (getD_mem h1)
        · rw [List.getD_eq_getElem?_getD, List.getElem?_eq_none (by omega)]; simp; omega
      have hb := g.bd (D.q.getD k 0).toNat (by omega)
      have hw : IntKind.i64.wrap (D.o.getD (D.q.getD k 0).toNat 0 + 1) = D.o.getD (D.q.getD k 0).toNat 0 + 1 := wrap_id (by omega) (by omega)
      have hp := pt_get hv (j := (D.q.getD k 0).toNat) (by omega)
      simp only [ptOk, decide_eq_true_eq] at hp
      simp only [W1, W2, TTs, implies_true, ↓addR_none, ↓reduceIte, reduceCtorEq, Nat.reduceEqDiff, Nat.reduceAdd, Nat.reduceSub, Nat.reduceMul, Nat.reduceLT, Nat.reduceLeDiff, Nat.reduceBEq, List.reduceReplicate, Int.reduceNeg, Int.reduceToNat, wrap_succ k (by omega), hw]
      ((repeat' first | ((with_reducible refine drawOK_of ?_); as_aux_lemma => kernel_rfl) | assumption | apply And.intro | intro); try any_goals omega)
      · rename_i k2
        obtain ⟨g3, g4, g5, g6⟩ := qHalf_ok hv g (by rw [hk]; exact k2)
        rw [hk] at g4 g5
        have hE : meetD D (h.l.getD (D.q.getD k 0).toNat 0) (D.o.getD (D.q.getD k 0).toNat 0 + 1) = qHalf h D := by unfold qHalf; rw [hk]
        have hm1 := ic_meet (G := G) D (h.l.getD (D.q.getD k 0).toNat 0) (D.o.getD (D.q.getD k 0).toNat 0 + 1) (by omega) (by omega)
        rw [hE] at hm1
        have hS : qStep h D = ⟨(meetD (qHalf h D) (h.r.getD ((qHalf h D).q.getD k 0).toNat 0) ((qHalf h D).o.getD ((qHalf h D).q.getD k 0).toNat 0 + 1)).o, (meetD (qHalf h D) (h.r.getD ((qHalf h D).q.getD k 0).toNat 0) ((qHalf h D).o.getD ((qHalf h D).q.getD k 0).toNat 0 + 1)).q, k + 1⟩ := by
          unfold qStep; simp only; rw [hk]
        generalize qHalf h D = E at *
        have g7 := g3.ol
        have g8 := g3.len
        have hw2 : IntKind.i64.wrap (E.o.getD (E.q.getD k 0).toNat 0 + 1) = E.o.getD (E.q.getD k 0).toNat 0 + 1 := by rw [g4, g5]; exact hw
        have hm2 := ic_meet (G := G) E (h.r.getD (E.q.getD k 0).toNat 0) (E.o.getD (E.q.getD k 0).toNat 0 + 1) (by rw [g4]; omega) (by omega)
        simp only [qH] at hm1 hm2
        (refine call_intro [2, 4, 1, 3] (hm1) (by first | (simp only [W1, W2, TTs, implies_true, ↓addR_none, ↓reduceIte, reduceCtorEq, Nat.reduceEqDiff, Nat.reduceAdd, Nat.reduceSub, Nat.reduceMul, Nat.reduceLT, Nat.reduceLeDiff, Nat.reduceBEq, List.reduceReplicate, Int.reduceNeg, Int.reduceToNat]; done) | exact subs_refl _ | (simp only [W1, W2, TTs, implies_true, ↓addR_none, ↓reduceIte, reduceCtorEq, Nat.reduceEqDiff, Nat.reduceAdd, Nat.reduceSub, Nat.reduceMul, Nat.reduceLT, Nat.reduceLeDiff, Nat.reduceBEq, List.reduceReplicate, Int.reduceNeg, Int.reduceToNat]; omega)) (by first | (simp only [W1, W2, TTs, implies_true, ↓addR_none, ↓reduceIte, reduceCtorEq, Nat.reduceEqDiff, Nat.reduceAdd, Nat.reduceSub, Nat.reduceMul, Nat.reduceLT, Nat.reduceLeDiff, Nat.reduceBEq, List.reduceReplicate, Int.reduceNeg, Int.reduceToNat]; done) | rfl) (by decide) (by first | (simp only [W1, W2, TTs, implies_true, ↓addR_none, ↓reduceIte, reduceCtorEq, Nat.reduceEqDiff, Nat.reduceAdd, Nat.reduceSub, Nat.reduceMul, Nat.reduceLT, Nat.reduceLeDiff, Nat.reduceBEq, List.reduceReplicate, Int.reduceNeg, Int.reduceToNat]; done) | (simp; done) | (simp [get]; done)) (by simp) ?_; simp only [W1, W2, TTs, implies_true, ↓addR_none, ↓reduceIte, reduceCtorEq, Nat.reduceEqDiff, Nat.reduceAdd, Nat.reduceSub, Nat.reduceMul, Nat.reduceLT, Nat.reduceLeDiff, Nat.reduceBEq, List.reduceReplicate, Int.reduceNeg, Int.reduceToNat, hw2, wrap_succ k (by omega)]; (repeat' first | ((with_reducible refine drawOK_of ?_); as_aux_lemma => kernel_rfl) | assumption | apply And.intro | intro); all_goals first | omega | (refine Eq.symm ?_; first | (simp_all [qH]; done) | (simp_all [qH]; omega) | (simp [qH]; omega)) | skip)
        generalize meetD E (h.r.getD (E.q.getD k 0).toNat 0) (E.o.getD (E.q.getD k 0).toNat 0 + 1) = F at *
        (refine call_intro [2, 4, 1, 3] (hm2) (by first | (simp only [W1, W2, TTs, implies_true, ↓addR_none, ↓reduceIte, reduceCtorEq, Nat.reduceEqDiff, Nat.reduceAdd, Nat.reduceSub, Nat.reduceMul, Nat.reduceLT, Nat.reduceLeDiff, Nat.reduceBEq, List.reduceReplicate, Int.reduceNeg, Int.reduceToNat]; done) | exact subs_refl _ | (simp only [W1, W2, TTs, implies_true, ↓addR_none, ↓reduceIte, reduceCtorEq, Nat.reduceEqDiff, Nat.reduceAdd, Nat.reduceSub, Nat.reduceMul, Nat.reduceLT, Nat.reduceLeDiff, Nat.reduceBEq, List.reduceReplicate, Int.reduceNeg, Int.reduceToNat]; omega)) (by first | (simp only [W1, W2, TTs, implies_true, ↓addR_none, ↓reduceIte, reduceCtorEq, Nat.reduceEqDiff, Nat.reduceAdd, Nat.reduceSub, Nat.reduceMul, Nat.reduceLT, Nat.reduceLeDiff, Nat.reduceBEq, List.reduceReplicate, Int.reduceNeg, Int.reduceToNat]; done) | rfl) (by decide) (by first | (simp only [W1, W2, TTs, implies_true, ↓addR_none, ↓reduceIte, reduceCtorEq, Nat.reduceEqDiff, Nat.reduceAdd, Nat.reduceSub, Nat.reduceMul, Nat.reduceLT, Nat.reduceLeDiff, Nat.reduceBEq, List.reduceReplicate, Int.reduceNeg, Int.reduceToNat]; done) | (simp; done) | (simp [get]; done)) (by simp) ?_; simp only [W1, W2, TTs, implies_true, ↓addR_none, ↓reduceIte, reduceCtorEq, Nat.reduceEqDiff, Nat.reduceAdd, Nat.reduceSub, Nat.reduceMul, Nat.reduceLT, Nat.reduceLeDiff, Nat.reduceBEq, List.reduceReplicate, Int.reduceNeg, Int.reduceToNat, wrap_succ k (by omega)]; (repeat' first | ((with_reducible refine drawOK_of ?_); as_aux_lemma => kernel_rfl) | assumption | apply And.intro | intro); all_goals first | omega | (refine Eq.symm ?_; first | (simp_all [qH]; done) | (simp_all [qH]; omega) | (simp [qH]; omega)) | skip)
        exact ⟨k + 1, hs k2, by omega, by refine Wk_mk [0, 1, 2, 3, 4] (by decide) (by rfl) (by simp) (by simp only [W1, W2, TTs, implies_true, ↓addR_none, ↓reduceIte, reduceCtorEq, Nat.reduceEqDiff, Nat.reduceAdd, Nat.reduceSub, Nat.reduceMul, Nat.reduceLT, Nat.reduceLeDiff, Nat.reduceBEq, List.reduceReplicate, Int.reduceNeg, Int.reduceToNat, hs1, hS]) (by simp only [W1, W2, TTs, implies_true, ↓addR_none, ↓reduceIte, reduceCtorEq, Nat.reduceEqDiff, Nat.reduceAdd, Nat.reduceSub, Nat.reduceMul, Nat.reduceLT, Nat.reduceLeDiff, Nat.reduceBEq, List.reduceReplicate, Int.reduceNeg, Int.reduceToNat, hs1, hS]) (by simp only [W1, W2, TTs, implies_true, ↓addR_none, ↓reduceIte, reduceCtorEq, Nat.reduceEqDiff, Nat.reduceAdd, Nat.reduceSub, Nat.reduceMul, Nat.reduceLT, Nat.reduceLeDiff, Nat.reduceBEq, List.reduceReplicate, Int.reduceNeg, Int.reduceToNat, hs1, hS])⟩
      all_goals
        rename_i k2
        have he := he k2
        simp [dists, he]
end Go.Proofs.Ytdacfgclclpooaa
