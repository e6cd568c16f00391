/- Contracts of the program's counts and of what is valid. Conditions: none. -/
import Derived.Test.YtdacfgclclpooaaI1
namespace Go.Proofs.Ytdacfgclclpooaa
open Go Go.RowKit
set_option linter.unusedVariables false
set_option linter.unusedSimpArgs false
attribute [local irreducible] LoopP CallP Plain Exec Gd runS awp KR Ret RR LoopK SeqC BlkK CondP sub
variable {G : Nat → AV}

def bump (c : List Int) (p : Int) : List Int := if p = -1 then c else c.set p.toNat (c.getD p.toNat 0 + 1)
def allOf (h : HD) : List Int := h.l ++ (h.r ++ h.t)
def counts (h : HD) : List Int := (allOf h).foldl bump (List.replicate h.l.length 0)
def countsV (h : HD) : List Int := if hvalid h then counts h else []
theorem bump_len (c p) : (bump c p).length = c.length := by unfold bump; split <;> simp
theorem bumps_len (l : List Int) : ∀ c, (l.foldl bump c).length = c.length := by
  induction l with
  | nil => intro c; rfl
  | cons p l ih => intro c; rw [List.foldl_cons, ih, bump_len]
theorem foldl_take_succ {α β : Type} {f : β → α → β} {l : List α} {i : Nat} (h : i < l.length) (d : α) (a : β) : (l.take (i + 1)).foldl f a = f ((l.take i).foldl f a) (l.getD i d) := by
  rw [List.take_succ_eq_append_getElem h, List.foldl_append, getD_lt h]; rfl
theorem bumps_get (l : List Int) : ∀ (c : List Int) (j : Nat), j < c.length → (∀ p ∈ l, ptOk c.length p = true) → (l.foldl bump c).getD j 0 = c.getD j 0 + (l.count (j : Int) : Nat) := by
  induction l with
  | nil => intro c j _ _; simp
  | cons p l ih =>
    intro c j hj hp
    rw [List.foldl_cons, ih (bump c p) j (by rw [bump_len]; exact hj) (fun q hq => by rw [bump_len]; exact hp q (by simp [hq]))]
    have h0 := hp p (by simp)
    simp only [ptOk, decide_eq_true_eq] at h0
    unfold bump
    rw [List.count_cons]
    by_cases e : p = -1
    · rw [if_pos e]
      have : ¬ ((p == (j : Int)) = true) := by simp; omega
      simp [this]
    · rw [if_neg e]
      by_cases e2 : p = j
      · subst e2
        simp [List.getD_eq_getElem?_getD, hj]; omega
      · have h3 : p.toNat ≠ j := by omega
        have : ¬ ((p == (j : Int)) = true) := by simpa using e2
        simp [List.getD_eq_getElem?_getD, List.getElem?_set_ne h3, this]
theorem all_pt {h : HD} (hv : hvalid h = true) : ∀ p ∈ allOf h, ptOk h.l.length p = true := by
  obtain ⟨h1, h2, h3⟩ := hvalid_all hv
  intro p hp
  simp only [allOf, List.mem_append] at hp
  rcases hp with hp | hp | hp
  · exact List.all_eq_true.1 h1 p hp
  · exact List.all_eq_true.1 h2 p hp
  · exact List.all_eq_true.1 h3 p hp
theorem counts_get {h : HD} (hv : hvalid h = true) {j : Nat} (hj : j < h.l.length) : (counts h).getD j 0 = ((allOf h).count (j : Int) : Nat) := by
  unfold counts
  rw [bumps_get _ _ _ (by simpa using hj) (by simpa using all_pt hv)]
  simp [List.getD_eq_getElem?_getD, hj]
theorem counts_len (h : HD) : (counts h).length = h.l.length := by simp [counts, bumps_len]

def cAt (h : HD) (i : Nat) : List Int := ((allOf h).take i).foldl bump (List.replicate h.l.length 0)
theorem cAt_0 (h : HD) : cAt h 0 = List.replicate h.l.length 0 := rfl
theorem cAt_len (h : HD) (i : Nat) : (cAt h i).length = h.l.length := by simp [cAt, bumps_len]
theorem allOf_pt {h : HD} (hv : hvalid h = true) (i : Nat) : i < (allOf h).length → -1 ≤ (allOf h).getD i 0 ∧ (allOf h).getD i 0 < h.l.length := fun h1 => by
  have := all_pt hv ((allOf h).getD i 0) (by rw [getD_lt h1]; exact List.getElem_mem h1)
  simpa [ptOk] using this
theorem cAt_succ (h : HD) (i : Nat) : i < (allOf h).length → cAt h (i + 1) = bump (cAt h i) ((allOf h).getD i 0) := fun h1 => foldl_take_succ h1 0 _
theorem cAt_bd {h : HD} (hv : hvalid h = true) (i : Nat) (j : Nat) (hj : j < h.l.length) : 0 ≤ (cAt h i).getD j 0 ∧ (cAt h i).getD j 0 ≤ 100 := by
  unfold cAt
  have hl := hvalid_len hv
  rw [bumps_get _ _ _ (by simpa using hj) (fun p hp => by simpa using all_pt hv p (List.mem_of_mem_take hp))]
  have h2 := List.count_le_length (a := (j : Int)) (l := (allOf h).take i)
  rw [List.length_take] at h2
  have ha : (allOf h).length = h.l.length + h.r.length + h.t.length := by simp [allOf]; omega
  have h3 : (List.replicate h.l.length (0 : Int)).getD j 0 = 0 := by simp [List.getD_eq_getElem?_getD, hj]
  omega
theorem cAt_end {h : HD} {i : Nat} (hi : ¬ i < (allOf h).length) : cAt h i = counts h := by unfold cAt counts; rw [List.take_of_length_le (by omega)]

theorem ic_CountsOf (h : HD) : IC PP G 37 [vH true h] [] (vI false (countsV h)) [] := by
  have h0 := ic_HeapValid (G := G) h
  unfold countsV
  cases hv : hvalid h
  · rw [hv] at h0
    simp only [Bool.false_eq_true, ↓reduceIte]
    refine IC_go ttOk mixed (fn := Try.f37) (by kernel_rfl) (by rfl) (by rfl) (by kernel_rfl) (by rfl) (by first | rfl | simp [cln, clns, clnB, ints_cln, strs_cln, odc_cln, u8s_cln, bools_cln, rdB, vI, vH, vS, vG, vO, vOs, vB, vC, vZ]) (by first | rfl | simp [cln, clns, clnB, ints_cln, strs_cln, odc_cln, u8s_cln, bools_cln, rdB, vI, vH, vS, vG, vO, vOs, vB, vC, vZ]) ?_
    simp only [Try.f37, W1, W2, TTs, implies_true, ↓addR_none, ↓reduceIte, reduceCtorEq, Nat.reduceEqDiff, Nat.reduceAdd, Nat.reduceSub, Nat.reduceMul, Nat.reduceLT, Nat.reduceLeDiff, Nat.reduceBEq, List.reduceReplicate, Int.reduceNeg, Int.reduceToNat]
    (refine call_pure (h0) (by first | exact subs_refl _ | (simp only [W1, W2, TTs, implies_true, ↓addR_none, ↓reduceIte, reduceCtorEq, Nat.reduceEqDiff, Nat.reduceAdd, Nat.reduceSub, Nat.reduceMul, Nat.reduceLT, Nat.reduceLeDiff, Nat.reduceBEq, List.reduceReplicate, Int.reduceNeg, Int.reduceToNat]; done) | (simp only [W1, W2, TTs, implies_true, ↓addR_none, ↓reduceIte, reduceCtorEq, Nat.reduceEqDiff, Nat.reduceAdd, Nat.reduceSub, Nat.reduceMul, Nat.reduceLT, Nat.reduceLeDiff, Nat.reduceBEq, List.reduceReplicate, Int.reduceNeg, Int.reduceToNat]; omega)) (by first | rfl | simp only [W1, W2, TTs, implies_true, ↓addR_none, ↓reduceIte, reduceCtorEq, Nat.reduceEqDiff, Nat.reduceAdd, Nat.reduceSub, Nat.reduceMul, Nat.reduceLT, Nat.reduceLeDiff, Nat.reduceBEq, List.reduceReplicate, Int.reduceNeg, Int.reduceToNat]) ?_; simp only [W1, W2, TTs, implies_true, ↓addR_none, ↓reduceIte, reduceCtorEq, Nat.reduceEqDiff, Nat.reduceAdd, Nat.reduceSub, Nat.reduceMul, Nat.reduceLT, Nat.reduceLeDiff, Nat.reduceBEq, List.reduceReplicate, Int.reduceNeg, Int.reduceToNat]; (repeat' first | ((with_reducible refine drawOK_of ?_); as_aux_lemma => kernel_rfl) | assumption | apply And.intro | intro); all_goals first | omega | (refine Eq.symm ?_; first | (simp_all [ints]; done) | (simp_all [ints]; omega) | (simp [ints]; omega)) | skip)
  · rw [hv] at h0
    have hl := hvalid_len hv
    simp only [↓reduceIte]
    refine IC_go ttOk mixed (fn := Try.f37) (by kernel_rfl) (by rfl) (by rfl) (by kernel_rfl) (by rfl) (by first | rfl | simp [cln, clns, clnB, ints_cln, strs_cln, odc_cln, u8s_cln, bools_cln, rdB, vI, vH, vS, vG, vO, vOs, vB, vC, vZ]) (by first | rfl | simp [cln, clns, clnB, ints_cln, strs_cln, odc_cln, u8s_cln, bools_cln, rdB, vI, vH, vS, vG, vO, vOs, vB, vC, vZ]) ?_
    simp only [Try.f37, W1, W2, TTs, implies_true, ↓addR_none, ↓reduceIte, reduceCtorEq, Nat.reduceEqDiff, Nat.reduceAdd, Nat.reduceSub, Nat.reduceMul, Nat.reduceLT, Nat.reduceLeDiff, Nat.reduceBEq, List.reduceReplicate, Int.reduceNeg, Int.reduceToNat]
    (refine call_pure (h0) (by first | exact subs_refl _ | (simp only [W1, W2, TTs, implies_true, ↓addR_none, ↓reduceIte, reduceCtorEq, Nat.reduceEqDiff, Nat.reduceAdd, Nat.reduceSub, Nat.reduceMul, Nat.reduceLT, Nat.reduceLeDiff, Nat.reduceBEq, List.reduceReplicate, Int.reduceNeg, Int.reduceToNat]; done) | (simp only [W1, W2, TTs, implies_true, ↓addR_none, ↓reduceIte, reduceCtorEq, Nat.reduceEqDiff, Nat.reduceAdd, Nat.reduceSub, Nat.reduceMul, Nat.reduceLT, Nat.reduceLeDiff, Nat.reduceBEq, List.reduceReplicate, Int.reduceNeg, Int.reduceToNat]; omega)) (by first | rfl | simp only [W1, W2, TTs, implies_true, ↓addR_none, ↓reduceIte, reduceCtorEq, Nat.reduceEqDiff, Nat.reduceAdd, Nat.reduceSub, Nat.reduceMul, Nat.reduceLT, Nat.reduceLeDiff, Nat.reduceBEq, List.reduceReplicate, Int.reduceNeg, Int.reduceToNat]) ?_; simp only [W1, W2, TTs, implies_true, ↓addR_none, ↓reduceIte, reduceCtorEq, Nat.reduceEqDiff, Nat.reduceAdd, Nat.reduceSub, Nat.reduceMul, Nat.reduceLT, Nat.reduceLeDiff, Nat.reduceBEq, List.reduceReplicate, Int.reduceNeg, Int.reduceToNat]; (repeat' first | ((with_reducible refine drawOK_of ?_); as_aux_lemma => kernel_rfl) | assumption | apply And.intro | intro); all_goals first | omega | (refine Eq.symm ?_; first | (simp_all [ints]; done) | (simp_all [ints]; omega) | (simp [ints]; omega)) | skip)
    (refine call_intro [] (ic_Concat h.l h.r h.t (by omega) (by omega) (by omega) (by omega)) (by first | (simp only [W1, W2, TTs, implies_true, ↓addR_none, ↓reduceIte, reduceCtorEq, Nat.reduceEqDiff, Nat.reduceAdd, Nat.reduceSub, Nat.reduceMul, Nat.reduceLT, Nat.reduceLeDiff, Nat.reduceBEq, List.reduceReplicate, Int.reduceNeg, Int.reduceToNat]; done) | exact subs_refl _ | (simp only [W1, W2, TTs, implies_true, ↓addR_none, ↓reduceIte, reduceCtorEq, Nat.reduceEqDiff, Nat.reduceAdd, Nat.reduceSub, Nat.reduceMul, Nat.reduceLT, Nat.reduceLeDiff, Nat.reduceBEq, List.reduceReplicate, Int.reduceNeg, Int.reduceToNat]; omega)) (by first | (simp only [W1, W2, TTs, implies_true, ↓addR_none, ↓reduceIte, reduceCtorEq, Nat.reduceEqDiff, Nat.reduceAdd, Nat.reduceSub, Nat.reduceMul, Nat.reduceLT, Nat.reduceLeDiff, Nat.reduceBEq, List.reduceReplicate, Int.reduceNeg, Int.reduceToNat]; done) | rfl) (by decide) (by first | (simp only [W1, W2, TTs, implies_true, ↓addR_none, ↓reduceIte, reduceCtorEq, Nat.reduceEqDiff, Nat.reduceAdd, Nat.reduceSub, Nat.reduceMul, Nat.reduceLT, Nat.reduceLeDiff, Nat.reduceBEq, List.reduceReplicate, Int.reduceNeg, Int.reduceToNat]; done) | (simp; done) | (simp [get]; done)) (by simp) ?_; simp only [W1, W2, TTs, implies_true, ↓addR_none, ↓reduceIte, reduceCtorEq, Nat.reduceEqDiff, Nat.reduceAdd, Nat.reduceSub, Nat.reduceMul, Nat.reduceLT, Nat.reduceLeDiff, Nat.reduceBEq, List.reduceReplicate, Int.reduceNeg, Int.reduceToNat]; (repeat' first | ((with_reducible refine drawOK_of ?_); as_aux_lemma => kernel_rfl) | assumption | apply And.intro | intro); all_goals first | omega | (refine Eq.symm ?_; first | (simp_all [ints]; done) | (simp_all [ints]; omega) | (simp [ints]; omega)) | skip)
    have ha : (allOf h).length = h.l.length + h.r.length + h.t.length := by simp [allOf]; omega
    refine loop_intro (ι := Nat) (fun i => ([(3, .sl 0 0 h.l.length h.l.length), (20, vI false (allOf h)), (21, .i .i64 (allOf h).length), (22, .i .i64 i)], [.cells 1 (ints (cAt h i))])) (fun i => i ≤ (allOf h).length) (fun i => (allOf h).length - i) 0 (by simp) ?_ ?_
    · refine Wk_mk [1] (by decide) (by rfl) (by simp) (by simp only [W1, W2, TTs, implies_true, ↓addR_none, ↓reduceIte, reduceCtorEq, Nat.reduceEqDiff, Nat.reduceAdd, Nat.reduceSub, Nat.reduceMul, Nat.reduceLT, Nat.reduceLeDiff, Nat.reduceBEq, List.reduceReplicate, Int.reduceNeg, Int.reduceToNat, allOf, List.append_assoc, ints_app, ints_rep, cAt_0, List.length_append, Nat.add_assoc, ints_dOnly]) (by simp only [W1, W2, TTs, implies_true, ↓addR_none, ↓reduceIte, reduceCtorEq, Nat.reduceEqDiff, Nat.reduceAdd, Nat.reduceSub, Nat.reduceMul, Nat.reduceLT, Nat.reduceLeDiff, Nat.reduceBEq, List.reduceReplicate, Int.reduceNeg, Int.reduceToNat, allOf, List.append_assoc, ints_app, ints_rep, cAt_0, List.length_append, Nat.add_assoc, ints_dOnly]) (by simp only [W1, W2, TTs, implies_true, ↓addR_none, ↓reduceIte, reduceCtorEq, Nat.reduceEqDiff, Nat.reduceAdd, Nat.reduceSub, Nat.reduceMul, Nat.reduceLT, Nat.reduceLeDiff, Nat.reduceBEq, List.reduceReplicate, Int.reduceNeg, Int.reduceToNat, allOf, List.append_assoc, ints_app, ints_rep, cAt_0, List.length_append, Nat.add_assoc, ints_dOnly])
    intro i hi
    have hcl := cAt_len h i
    have hp := allOf_pt hv i
    have hs := cAt_succ h i
    have hb := cAt_bd hv i
    simp only [W1, W2, TTs, implies_true, ↓addR_none, ↓reduceIte, reduceCtorEq, Nat.reduceEqDiff, Nat.reduceAdd, Nat.reduceSub, Nat.reduceMul, Nat.reduceLT, Nat.reduceLeDiff, Nat.reduceBEq, List.reduceReplicate, Int.reduceNeg, Int.reduceToNat, wrap_succ i (by omega)]
    ((repeat' first | ((with_reducible refine drawOK_of ?_); as_aux_lemma => kernel_rfl) | assumption | apply And.intro | intro); try any_goals omega)
    · rename_i k1 k2
      have hb2 := hb ((allOf h).getD i 0).toNat (by omega)
      exact ⟨i + 1, by omega, by omega, by refine Wk_mk [0] (by decide) (by rfl) (by simp) (by simp only [W1, W2, TTs, implies_true, ↓addR_none, ↓reduceIte, reduceCtorEq, Nat.reduceEqDiff, Nat.reduceAdd, Nat.reduceSub, Nat.reduceMul, Nat.reduceLT, Nat.reduceLeDiff, Nat.reduceBEq, List.reduceReplicate, Int.reduceNeg, Int.reduceToNat, hs k1, bump, k2, wrap_add1 hb2.1 (show (cAt h i).getD ((allOf h).getD i 0).toNat 0 ≤ 4611686018427387904 by omega)]) (by simp only [W1, W2, TTs, implies_true, ↓addR_none, ↓reduceIte, reduceCtorEq, Nat.reduceEqDiff, Nat.reduceAdd, Nat.reduceSub, Nat.reduceMul, Nat.reduceLT, Nat.reduceLeDiff, Nat.reduceBEq, List.reduceReplicate, Int.reduceNeg, Int.reduceToNat, hs k1, bump, k2, wrap_add1 hb2.1 (show (cAt h i).getD ((allOf h).getD i 0).toNat 0 ≤ 4611686018427387904 by omega)]) (by simp only [W1, W2, TTs, implies_true, ↓addR_none, ↓reduceIte, reduceCtorEq, Nat.reduceEqDiff, Nat.reduceAdd, Nat.reduceSub, Nat.reduceMul, Nat.reduceLT, Nat.reduceLeDiff, Nat.reduceBEq, List.reduceReplicate, Int.reduceNeg, Int.reduceToNat, hs k1, bump, k2, wrap_add1 hb2.1 (show (cAt h i).getD ((allOf h).getD i 0).toNat 0 ≤ 4611686018427387904 by omega)])⟩
    · rename_i k1 k2
      exact ⟨i + 1, by omega, by omega, by refine Wk_mk [0] (by decide) (by rfl) (by simp) (by simp only [W1, W2, TTs, implies_true, ↓addR_none, ↓reduceIte, reduceCtorEq, Nat.reduceEqDiff, Nat.reduceAdd, Nat.reduceSub, Nat.reduceMul, Nat.reduceLT, Nat.reduceLeDiff, Nat.reduceBEq, List.reduceReplicate, Int.reduceNeg, Int.reduceToNat, hs k1, bump, k2]) (by simp only [W1, W2, TTs, implies_true, ↓addR_none, ↓reduceIte, reduceCtorEq, Nat.reduceEqDiff, Nat.reduceAdd, Nat.reduceSub, Nat.reduceMul, Nat.reduceLT, Nat.reduceLeDiff, Nat.reduceBEq, List.reduceReplicate, Int.reduceNeg, Int.reduceToNat, hs k1, bump, k2]) (by simp only [W1, W2, TTs, implies_true, ↓addR_none, ↓reduceIte, reduceCtorEq, Nat.reduceEqDiff, Nat.reduceAdd, Nat.reduceSub, Nat.reduceMul, Nat.reduceLT, Nat.reduceLeDiff, Nat.reduceBEq, List.reduceReplicate, Int.reduceNeg, Int.reduceToNat, hs k1, bump, k2])⟩
    · rename_i k1
      simp [cAt_end k1, counts_len, sub, vI]

theorem ic_s_CountsOf (h : HD) : IC PP G 48 [vH true h] [] (vI false (countsV h)) [] := by
  have h0 := ic_s_HeapValid (G := G) h
  unfold countsV
  cases hv : hvalid h
  · rw [hv] at h0
    simp only [Bool.false_eq_true, ↓reduceIte]
    refine IC_go ttOk mixed (fn := Try.f48) (by kernel_rfl) (by rfl) (by rfl) (by kernel_rfl) (by rfl) (by first | rfl | simp [cln, clns, clnB, ints_cln, strs_cln, odc_cln, u8s_cln, bools_cln, rdB, vI, vH, vS, vG, vO, vOs, vB, vC, vZ]) (by first | rfl | simp [cln, clns, clnB, ints_cln, strs_cln, odc_cln, u8s_cln, bools_cln, rdB, vI, vH, vS, vG, vO, vOs, vB, vC, vZ]) ?_
    simp only [Try.f48, W1, W2, TTs, implies_true, ↓addR_none, ↓reduceIte, reduceCtorEq, Nat.reduceEqDiff, Nat.reduceAdd, Nat.reduceSub, Nat.reduceMul, Nat.reduceLT, Nat.reduceLeDiff, Nat.reduceBEq, List.reduceReplicate, Int.reduceNeg, Int.reduceToNat]
    (refine call_pure (h0) (by first | exact subs_refl _ | (simp only [W1, W2, TTs, implies_true, ↓addR_none, ↓reduceIte, reduceCtorEq, Nat.reduceEqDiff, Nat.reduceAdd, Nat.reduceSub, Nat.reduceMul, Nat.reduceLT, Nat.reduceLeDiff, Nat.reduceBEq, List.reduceReplicate, Int.reduceNeg, Int.reduceToNat]; done) | (simp only [W1, W2, TTs, implies_true, ↓addR_none, ↓reduceIte, reduceCtorEq, Nat.reduceEqDiff, Nat.reduceAdd, Nat.reduceSub, Nat.reduceMul, Nat.reduceLT, Nat.reduceLeDiff, Nat.reduceBEq, List.reduceReplicate, Int.reduceNeg, Int.reduceToNat]; omega)) (by first | rfl | simp only [W1, W2, TTs, implies_true, ↓addR_none, ↓reduceIte, reduceCtorEq, Nat.reduceEqDiff, Nat.reduceAdd, Nat.reduceSub, Nat.reduceMul, Nat.reduceLT, Nat.reduceLeDiff, Nat.reduceBEq, List.reduceReplicate, Int.reduceNeg, Int.reduceToNat]) ?_; simp only [W1, W2, TTs, implies_true, ↓addR_none, ↓reduceIte, reduceCtorEq, Nat.reduceEqDiff, Nat.reduceAdd, Nat.reduceSub, Nat.reduceMul, Nat.reduceLT, Nat.reduceLeDiff, Nat.reduceBEq, List.reduceReplicate, Int.reduceNeg, Int.reduceToNat]; (repeat' first | ((with_reducible refine drawOK_of ?_); as_aux_lemma => kernel_rfl) | assumption | apply And.intro | intro); all_goals first | omega | (refine Eq.symm ?_; first | (simp_all [ints]; done) | (simp_all [ints]; omega) | (simp [ints]; omega)) | skip)
  · rw [hv] at h0
    have hl := hvalid_len hv
    simp only [↓reduceIte]
    refine IC_go ttOk mixed (fn := Try.f48) (by kernel_rfl) (by rfl) (by rfl) (by kernel_rfl) (by rfl) (by first | rfl | simp [cln, clns, clnB, ints_cln, strs_cln, odc_cln, u8s_cln, bools_cln, rdB, vI, vH, vS, vG, vO, vOs, vB, vC, vZ]) (by first | rfl | simp [cln, clns, clnB, ints_cln, strs_cln, odc_cln, u8s_cln, bools_cln, rdB, vI, vH, vS, vG, vO, vOs, vB, vC, vZ]) ?_
    simp only [Try.f48, W1, W2, TTs, implies_true, ↓addR_none, ↓reduceIte, reduceCtorEq, Nat.reduceEqDiff, Nat.reduceAdd, Nat.reduceSub, Nat.reduceMul, Nat.reduceLT, Nat.reduceLeDiff, Nat.reduceBEq, List.reduceReplicate, Int.reduceNeg, Int.reduceToNat]
    (refine call_pure (h0) (by first | exact subs_refl _ | (simp only [W1, W2, TTs, implies_true, ↓addR_none, ↓reduceIte, reduceCtorEq, Nat.reduceEqDiff, Nat.reduceAdd, Nat.reduceSub, Nat.reduceMul, Nat.reduceLT, Nat.reduceLeDiff, Nat.reduceBEq, List.reduceReplicate, Int.reduceNeg, Int.reduceToNat]; done) | (simp only [W1, W2, TTs, implies_true, ↓addR_none, ↓reduceIte, reduceCtorEq, Nat.reduceEqDiff, Nat.reduceAdd, Nat.reduceSub, Nat.reduceMul, Nat.reduceLT, Nat.reduceLeDiff, Nat.reduceBEq, List.reduceReplicate, Int.reduceNeg, Int.reduceToNat]; omega)) (by first | rfl | simp only [W1, W2, TTs, implies_true, ↓addR_none, ↓reduceIte, reduceCtorEq, Nat.reduceEqDiff, Nat.reduceAdd, Nat.reduceSub, Nat.reduceMul, Nat.reduceLT, Nat.reduceLeDiff, Nat.reduceBEq, List.reduceReplicate, Int.reduceNeg, Int.reduceToNat]) ?_; simp only [W1, W2, TTs, implies_true, ↓addR_none, ↓reduceIte, reduceCtorEq, Nat.reduceEqDiff, Nat.reduceAdd, Nat.reduceSub, Nat.reduceMul, Nat.reduceLT, Nat.reduceLeDiff, Nat.reduceBEq, List.reduceReplicate, Int.reduceNeg, Int.reduceToNat]; (repeat' first | ((with_reducible refine drawOK_of ?_); as_aux_lemma => kernel_rfl) | assumption | apply And.intro | intro); all_goals first | omega | (refine Eq.symm ?_; first | (simp_all [ints]; done) | (simp_all [ints]; omega) | (simp [ints]; omega)) | skip)
    have ha : (allOf h).length = h.l.length + h.r.length + h.t.length := by simp [allOf]; omega
    refine loop_intro (ι := Nat) (fun i => ([(3, .sl 0 0 h.l.length h.l.length), (4, vI false (allOf h)), (5, .i .i64 i)], [.cells 1 (ints (cAt h i))])) (fun i => i ≤ (allOf h).length) (fun i => (allOf h).length - i) 0 (by simp) ?_ ?_
    · refine Wk_mk [2] (by decide) (by rfl) (by simp) (by simp only [W1, W2, TTs, implies_true, ↓addR_none, ↓reduceIte, reduceCtorEq, Nat.reduceEqDiff, Nat.reduceAdd, Nat.reduceSub, Nat.reduceMul, Nat.reduceLT, Nat.reduceLeDiff, Nat.reduceBEq, List.reduceReplicate, Int.reduceNeg, Int.reduceToNat, allOf, List.append_assoc, ints_app, ints_rep, cAt_0, List.length_append, Nat.add_assoc, ints_dOnly]) (by simp only [W1, W2, TTs, implies_true, ↓addR_none, ↓reduceIte, reduceCtorEq, Nat.reduceEqDiff, Nat.reduceAdd, Nat.reduceSub, Nat.reduceMul, Nat.reduceLT, Nat.reduceLeDiff, Nat.reduceBEq, List.reduceReplicate, Int.reduceNeg, Int.reduceToNat, allOf, List.append_assoc, ints_app, ints_rep, cAt_0, List.length_append, Nat.add_assoc, ints_dOnly]) (by simp only [W1, W2, TTs, implies_true, ↓addR_none, ↓reduceIte, reduceCtorEq, Nat.reduceEqDiff, Nat.reduceAdd, Nat.reduceSub, Nat.reduceMul, Nat.reduceLT, Nat.reduceLeDiff, Nat.reduceBEq, List.reduceReplicate, Int.reduceNeg, Int.reduceToNat, allOf, List.append_assoc, ints_app, ints_rep, cAt_0, List.length_append, Nat.add_assoc, ints_dOnly])
    intro i hi
    have hcl := cAt_len h i
    have hp := allOf_pt hv i
    have hs := cAt_succ h i
    have hb := cAt_bd hv i
    simp only [W1, W2, TTs, implies_true, ↓addR_none, ↓reduceIte, reduceCtorEq, Nat.reduceEqDiff, Nat.reduceAdd, Nat.reduceSub, Nat.reduceMul, Nat.reduceLT, Nat.reduceLeDiff, Nat.reduceBEq, List.reduceReplicate, Int.reduceNeg, Int.reduceToNat, wrap_succ i (by omega)]
    ((repeat' first | ((with_reducible refine drawOK_of ?_); as_aux_lemma => kernel_rfl) | assumption | apply And.intro | intro); try any_goals omega)
    · rename_i k1 k2
      have hb2 := hb ((allOf h).getD i 0).toNat (by omega)
      exact ⟨i + 1, by omega, by omega, by refine Wk_mk [0] (by decide) (by rfl) (by simp) (by simp only [W1, W2, TTs, implies_true, ↓addR_none, ↓reduceIte, reduceCtorEq, Nat.reduceEqDiff, Nat.reduceAdd, Nat.reduceSub, Nat.reduceMul, Nat.reduceLT, Nat.reduceLeDiff, Nat.reduceBEq, List.reduceReplicate, Int.reduceNeg, Int.reduceToNat, hs k1, bump, k2, wrap_add1 hb2.1 (show (cAt h i).getD ((allOf h).getD i 0).toNat 0 ≤ 4611686018427387904 by omega)]) (by simp only [W1, W2, TTs, implies_true, ↓addR_none, ↓reduceIte, reduceCtorEq, Nat.reduceEqDiff, Nat.reduceAdd, Nat.reduceSub, Nat.reduceMul, Nat.reduceLT, Nat.reduceLeDiff, Nat.reduceBEq, List.reduceReplicate, Int.reduceNeg, Int.reduceToNat, hs k1, bump, k2, wrap_add1 hb2.1 (show (cAt h i).getD ((allOf h).getD i 0).toNat 0 ≤ 4611686018427387904 by omega)]) (by simp only [W1, W2, TTs, implies_true, ↓addR_none, ↓reduceIte, reduceCtorEq, Nat.reduceEqDiff, Nat.reduceAdd, Nat.reduceSub, Nat.reduceMul, Nat.reduceLT, Nat.reduceLeDiff, Nat.reduceBEq, List.reduceReplicate, Int.reduceNeg, Int.reduceToNat, hs k1, bump, k2, wrap_add1 hb2.1 (show (cAt h i).getD ((allOf h).getD i 0).toNat 0 ≤ 4611686018427387904 by omega)])⟩
    · rename_i k1 k2
      exact ⟨i + 1, by omega, by omega, by refine Wk_mk [0] (by decide) (by rfl) (by simp) (by simp only [W1, W2, TTs, implies_true, ↓addR_none, ↓reduceIte, reduceCtorEq, Nat.reduceEqDiff, Nat.reduceAdd, Nat.reduceSub, Nat.reduceMul, Nat.reduceLT, Nat.reduceLeDiff, Nat.reduceBEq, List.reduceReplicate, Int.reduceNeg, Int.reduceToNat, hs k1, bump, k2]) (by simp only [W1, W2, TTs, implies_true, ↓addR_none, ↓reduceIte, reduceCtorEq, Nat.reduceEqDiff, Nat.reduceAdd, Nat.reduceSub, Nat.reduceMul, Nat.reduceLT, Nat.reduceLeDiff, Nat.reduceBEq, List.reduceReplicate, Int.reduceNeg, Int.reduceToNat, hs k1, bump, k2]) (by simp only [W1, W2, TTs, implies_true, ↓addR_none, ↓reduceIte, reduceCtorEq, Nat.reduceEqDiff, Nat.reduceAdd, Nat.reduceSub, Nat.reduceMul, Nat.reduceLT, Nat.reduceLeDiff, Nat.reduceBEq, List.reduceReplicate, Int.reduceNeg, Int.reduceToNat, hs k1, bump, k2])⟩
    · rename_i k1
      simp [cAt_end k1, counts_len, sub, vI]
end Go.Proofs.Ytdacfgclclpooaa
