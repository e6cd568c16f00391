/- Contracts of the library's small functions over lists of numbers. Conditions: none. -/
import Derived.Test.YtdacfgclclpooaaC10
import Derived.Tactics
import Derived.Tactics2
import Derived.Laws.Slices
import Derived.Laws.Cover3
import Derived.Laws.IdiomCopy
namespace Go.Proofs.Ytdacfgclclpooaa
open Go Go.RowKit
set_option linter.unusedVariables false
set_option linter.unusedSimpArgs false
attribute [local irreducible] LoopP CallP Plain Exec Gd runS awp KR Ret RR LoopK SeqC BlkK CondP sub
variable {G : Nat → AV}

theorem ic_Equal (a b : List Int) (ha : a.length ≤ 4294967296) : IC PP G 20 [vI true a, vI true b] [] (.b (a == b)) [] := by
  refine IC_go ttOk mixed (fn := Try.f20) (by kernel_rfl) (by rfl) (by rfl) (by kernel_rfl) (by rfl) (by first | rfl | simp [cln, clns, clnB, ints_cln, strs_cln, odc_cln, u8s_cln, bools_cln, rdB, vI, vH, vS, vG, vO, vOs, vB, vC, vZ]) (by first | rfl | simp [cln, clns, clnB, ints_cln, strs_cln, odc_cln, u8s_cln, bools_cln, rdB, vI, vH, vS, vG, vO, vOs, vB, vC, vZ]) ?_
  simp only [Try.f20, W1, W2, TTs, implies_true, ↓addR_none, ↓reduceIte, reduceCtorEq, Nat.reduceEqDiff, Nat.reduceAdd, Nat.reduceSub, Nat.reduceMul, Nat.reduceLT, Nat.reduceLeDiff, Nat.reduceBEq, List.reduceReplicate, Int.reduceNeg, Int.reduceToNat]
  (repeat' first | ((with_reducible refine drawOK_of ?_); as_aux_lemma => kernel_rfl) | assumption | apply And.intro | intro)
  · rename_i h
    have : a ≠ b := fun e => h (by rw [e])
    simp [this]
  · rename_i h
    refine loop_intro (ι := Nat) (fun i => ([(0, vI true a), (1, vI true b), (12, .i .i64 a.length), (13, .i .i64 i)], [])) (fun i => i ≤ a.length ∧ a.take i = b.take i) (fun i => a.length - i) 0 (by simp) (by refine Wk_mk [] (by decide) (by rfl) (by simp) (by simp only [W1, W2, TTs, implies_true, ↓addR_none, ↓reduceIte, reduceCtorEq, Nat.reduceEqDiff, Nat.reduceAdd, Nat.reduceSub, Nat.reduceMul, Nat.reduceLT, Nat.reduceLeDiff, Nat.reduceBEq, List.reduceReplicate, Int.reduceNeg, Int.reduceToNat]) (by simp only [W1, W2, TTs, implies_true, ↓addR_none, ↓reduceIte, reduceCtorEq, Nat.reduceEqDiff, Nat.reduceAdd, Nat.reduceSub, Nat.reduceMul, Nat.reduceLT, Nat.reduceLeDiff, Nat.reduceBEq, List.reduceReplicate, Int.reduceNeg, Int.reduceToNat]) (by simp only [W1, W2, TTs, implies_true, ↓addR_none, ↓reduceIte, reduceCtorEq, Nat.reduceEqDiff, Nat.reduceAdd, Nat.reduceSub, Nat.reduceMul, Nat.reduceLT, Nat.reduceLeDiff, Nat.reduceBEq, List.reduceReplicate, Int.reduceNeg, Int.reduceToNat])) ?_
    intro i hi
    simp only [W1, W2, TTs, implies_true, ↓addR_none, ↓reduceIte, reduceCtorEq, Nat.reduceEqDiff, Nat.reduceAdd, Nat.reduceSub, Nat.reduceMul, Nat.reduceLT, Nat.reduceLeDiff, Nat.reduceBEq, List.reduceReplicate, Int.reduceNeg, Int.reduceToNat, wrap_succ i (by omega)]
    ((repeat' first | ((with_reducible refine drawOK_of ?_); as_aux_lemma => kernel_rfl) | assumption | apply And.intro | intro); try any_goals omega)
    · rename_i k1 k2
      have : a ≠ b := fun e => k2 (by rw [e])
      simp [this]
    · rename_i k1 k2
      exact ⟨i + 1, ⟨by omega, take_eq_succ k1 (by omega) hi.2 k2⟩, by omega, by refine Wk_mk [] (by decide) (by rfl) (by simp) (by simp only [W1, W2, TTs, implies_true, ↓addR_none, ↓reduceIte, reduceCtorEq, Nat.reduceEqDiff, Nat.reduceAdd, Nat.reduceSub, Nat.reduceMul, Nat.reduceLT, Nat.reduceLeDiff, Nat.reduceBEq, List.reduceReplicate, Int.reduceNeg, Int.reduceToNat]) (by simp only [W1, W2, TTs, implies_true, ↓addR_none, ↓reduceIte, reduceCtorEq, Nat.reduceEqDiff, Nat.reduceAdd, Nat.reduceSub, Nat.reduceMul, Nat.reduceLT, Nat.reduceLeDiff, Nat.reduceBEq, List.reduceReplicate, Int.reduceNeg, Int.reduceToNat]) (by simp only [W1, W2, TTs, implies_true, ↓addR_none, ↓reduceIte, reduceCtorEq, Nat.reduceEqDiff, Nat.reduceAdd, Nat.reduceSub, Nat.reduceMul, Nat.reduceLT, Nat.reduceLeDiff, Nat.reduceBEq, List.reduceReplicate, Int.reduceNeg, Int.reduceToNat])⟩
    · rename_i k1
      have : a = b := by rw [← List.take_of_length_le (l := a) (i := i) (by omega), hi.2, List.take_of_length_le (by omega)]
      simp [this]

theorem ic_Index (l : List Int) (n : Int) (hl : l.length ≤ 4294967296) : IC PP G 38 [vI true l, .i .i64 n] [] (.i .i64 (atI l n)) [] := by
  refine IC_go ttOk mixed (fn := Try.f38) (by kernel_rfl) (by rfl) (by rfl) (by kernel_rfl) (by rfl) (by first | rfl | simp [cln, clns, clnB, ints_cln, strs_cln, odc_cln, u8s_cln, bools_cln, rdB, vI, vH, vS, vG, vO, vOs, vB, vC, vZ]) (by first | rfl | simp [cln, clns, clnB, ints_cln, strs_cln, odc_cln, u8s_cln, bools_cln, rdB, vI, vH, vS, vG, vO, vOs, vB, vC, vZ]) ?_
  simp only [Try.f38, W1, W2, TTs, implies_true, ↓addR_none, ↓reduceIte, reduceCtorEq, Nat.reduceEqDiff, Nat.reduceAdd, Nat.reduceSub, Nat.reduceMul, Nat.reduceLT, Nat.reduceLeDiff, Nat.reduceBEq, List.reduceReplicate, Int.reduceNeg, Int.reduceToNat]
  refine loop_intro (ι := Nat) (fun i => ([(0, vI true l), (1, .i .i64 n), (7, .i .i64 l.length), (8, .i .i64 i)], [])) (fun i => i ≤ l.length ∧ n ∉ l.take i) (fun i => l.length - i) 0 (by simp) (by refine Wk_mk [] (by decide) (by rfl) (by simp) (by simp only [W1, W2, TTs, implies_true, ↓addR_none, ↓reduceIte, reduceCtorEq, Nat.reduceEqDiff, Nat.reduceAdd, Nat.reduceSub, Nat.reduceMul, Nat.reduceLT, Nat.reduceLeDiff, Nat.reduceBEq, List.reduceReplicate, Int.reduceNeg, Int.reduceToNat]) (by simp only [W1, W2, TTs, implies_true, ↓addR_none, ↓reduceIte, reduceCtorEq, Nat.reduceEqDiff, Nat.reduceAdd, Nat.reduceSub, Nat.reduceMul, Nat.reduceLT, Nat.reduceLeDiff, Nat.reduceBEq, List.reduceReplicate, Int.reduceNeg, Int.reduceToNat]) (by simp only [W1, W2, TTs, implies_true, ↓addR_none, ↓reduceIte, reduceCtorEq, Nat.reduceEqDiff, Nat.reduceAdd, Nat.reduceSub, Nat.reduceMul, Nat.reduceLT, Nat.reduceLeDiff, Nat.reduceBEq, List.reduceReplicate, Int.reduceNeg, Int.reduceToNat])) ?_
  intro i hi
  simp only [W1, W2, TTs, implies_true, ↓addR_none, ↓reduceIte, reduceCtorEq, Nat.reduceEqDiff, Nat.reduceAdd, Nat.reduceSub, Nat.reduceMul, Nat.reduceLT, Nat.reduceLeDiff, Nat.reduceBEq, List.reduceReplicate, Int.reduceNeg, Int.reduceToNat, wrap_succ i (by omega)]
  (repeat' first | ((with_reducible refine drawOK_of ?_); as_aux_lemma => kernel_rfl) | assumption | apply And.intro | intro)
  · rename_i k1 k2; exact (atI_hit k1 hi.2 k2.symm).symm
  · rename_i k1 k2; exact ⟨i + 1, ⟨by omega, not_mem_take_succ k1 hi.2 (fun e => k2 e.symm)⟩, by omega, by refine Wk_mk [] (by decide) (by rfl) (by simp) (by simp only [W1, W2, TTs, implies_true, ↓addR_none, ↓reduceIte, reduceCtorEq, Nat.reduceEqDiff, Nat.reduceAdd, Nat.reduceSub, Nat.reduceMul, Nat.reduceLT, Nat.reduceLeDiff, Nat.reduceBEq, List.reduceReplicate, Int.reduceNeg, Int.reduceToNat]) (by simp only [W1, W2, TTs, implies_true, ↓addR_none, ↓reduceIte, reduceCtorEq, Nat.reduceEqDiff, Nat.reduceAdd, Nat.reduceSub, Nat.reduceMul, Nat.reduceLT, Nat.reduceLeDiff, Nat.reduceBEq, List.reduceReplicate, Int.reduceNeg, Int.reduceToNat]) (by simp only [W1, W2, TTs, implies_true, ↓addR_none, ↓reduceIte, reduceCtorEq, Nat.reduceEqDiff, Nat.reduceAdd, Nat.reduceSub, Nat.reduceMul, Nat.reduceLT, Nat.reduceLeDiff, Nat.reduceBEq, List.reduceReplicate, Int.reduceNeg, Int.reduceToNat])⟩
  · rename_i k1; rw [atI_miss]; rw [List.take_of_length_le (by omega)] at hi; exact hi.2

theorem ic_Contains (l : List Int) (n : Int) (hl : l.length ≤ 4294967296) : IC PP G 26 [vI true l, .i .i64 n] [] (.b (l.contains n)) [] := by
  refine IC_go ttOk mixed (fn := Try.f26) (by kernel_rfl) (by rfl) (by rfl) (by kernel_rfl) (by rfl) (by first | rfl | simp [cln, clns, clnB, ints_cln, strs_cln, odc_cln, u8s_cln, bools_cln, rdB, vI, vH, vS, vG, vO, vOs, vB, vC, vZ]) (by first | rfl | simp [cln, clns, clnB, ints_cln, strs_cln, odc_cln, u8s_cln, bools_cln, rdB, vI, vH, vS, vG, vO, vOs, vB, vC, vZ]) ?_
  simp only [Try.f26, W1, W2, TTs, implies_true, ↓addR_none, ↓reduceIte, reduceCtorEq, Nat.reduceEqDiff, Nat.reduceAdd, Nat.reduceSub, Nat.reduceMul, Nat.reduceLT, Nat.reduceLeDiff, Nat.reduceBEq, List.reduceReplicate, Int.reduceNeg, Int.reduceToNat]
  (refine call_pure (ic_Index l n hl) (by first | exact subs_refl _ | (simp only [W1, W2, TTs, implies_true, ↓addR_none, ↓reduceIte, reduceCtorEq, Nat.reduceEqDiff, Nat.reduceAdd, Nat.reduceSub, Nat.reduceMul, Nat.reduceLT, Nat.reduceLeDiff, Nat.reduceBEq, List.reduceReplicate, Int.reduceNeg, Int.reduceToNat]; done) | (simp only [W1, W2, TTs, implies_true, ↓addR_none, ↓reduceIte, reduceCtorEq, Nat.reduceEqDiff, Nat.reduceAdd, Nat.reduceSub, Nat.reduceMul, Nat.reduceLT, Nat.reduceLeDiff, Nat.reduceBEq, List.reduceReplicate, Int.reduceNeg, Int.reduceToNat]; omega)) (by first | rfl | simp only [W1, W2, TTs, implies_true, ↓addR_none, ↓reduceIte, reduceCtorEq, Nat.reduceEqDiff, Nat.reduceAdd, Nat.reduceSub, Nat.reduceMul, Nat.reduceLT, Nat.reduceLeDiff, Nat.reduceBEq, List.reduceReplicate, Int.reduceNeg, Int.reduceToNat]) ?_; simp only [W1, W2, TTs, implies_true, ↓addR_none, ↓reduceIte, reduceCtorEq, Nat.reduceEqDiff, Nat.reduceAdd, Nat.reduceSub, Nat.reduceMul, Nat.reduceLT, Nat.reduceLeDiff, Nat.reduceBEq, List.reduceReplicate, Int.reduceNeg, Int.reduceToNat, atI_nn]; (repeat' first | ((with_reducible refine drawOK_of ?_); as_aux_lemma => kernel_rfl) | assumption | apply And.intro | intro); all_goals first | omega | (refine Eq.symm ?_; first | (simp_all [List.contains_eq_mem]; done) | (simp_all [List.contains_eq_mem]; omega) | (simp [List.contains_eq_mem]; omega)) | skip)

theorem ic_Clip (l : List Int) : IC PP G 53 [.sl 0 0 l.length l.length] [.cells 1 (ints l)] (.sl 0 0 l.length l.length) [.cells 1 (ints l)] := by
  refine IC_go ttOk mixed (fn := Try.f53) (by kernel_rfl) (by rfl) (by rfl) (by kernel_rfl) (by rfl) (by first | rfl | simp [cln, clns, clnB, ints_cln, strs_cln, odc_cln, u8s_cln, bools_cln, rdB, vI, vH, vS, vG, vO, vOs, vB, vC, vZ]) (by first | rfl | simp [cln, clns, clnB, ints_cln, strs_cln, odc_cln, u8s_cln, bools_cln, rdB, vI, vH, vS, vG, vO, vOs, vB, vC, vZ]) ?_
  simp only [Try.f53, W1, W2, TTs, implies_true, ↓addR_none, ↓reduceIte, reduceCtorEq, Nat.reduceEqDiff, Nat.reduceAdd, Nat.reduceSub, Nat.reduceMul, Nat.reduceLT, Nat.reduceLeDiff, Nat.reduceBEq, List.reduceReplicate, Int.reduceNeg, Int.reduceToNat]
  (repeat' first | ((with_reducible refine drawOK_of ?_); as_aux_lemma => kernel_rfl) | assumption | apply And.intro | intro)

theorem ints_rep (n : Nat) (x : Int) : List.replicate n (AV.i .i64 x) = ints (List.replicate n x) := by simp [ints]
theorem getD_rep {n i : Nat} (x : Int) (h : i < n) : (List.replicate n x).getD i 0 = x := by simp [List.getD_eq_getElem?_getD, h]
theorem w0 : IntKind.i64.wrap 0 = 0 := by decide
theorem ic_Grow (n : Nat) (h0 : 0 < n) (hn : n ≤ 4294967296) : IC PP G 63 [.nilS, .i .i64 n] [] (.sl 0 0 0 n) [.cells 1 (ints (List.replicate n 0))] := by
  refine IC_go ttOk mixed (fn := Try.f63) (by kernel_rfl) (by rfl) (by rfl) (by kernel_rfl) (by rfl) (by first | rfl | simp [cln, clns, clnB, ints_cln, strs_cln, odc_cln, u8s_cln, bools_cln, rdB, vI, vH, vS, vG, vO, vOs, vB, vC, vZ]) (by first | rfl | simp [cln, clns, clnB, ints_cln, strs_cln, odc_cln, u8s_cln, bools_cln, rdB, vI, vH, vS, vG, vO, vOs, vB, vC, vZ]) ?_
  simp only [Try.f63, W1, W2, TTs, implies_true, ↓addR_none, ↓reduceIte, reduceCtorEq, Nat.reduceEqDiff, Nat.reduceAdd, Nat.reduceSub, Nat.reduceMul, Nat.reduceLT, Nat.reduceLeDiff, Nat.reduceBEq, List.reduceReplicate, Int.reduceNeg, Int.reduceToNat, w0, Int.sub_zero, wrap_nat n (by omega), ints_rep, Nat.sub_zero]
  ((repeat' first | ((with_reducible refine drawOK_of ?_); as_aux_lemma => kernel_rfl) | assumption | apply And.intro | intro); try any_goals omega)
  refine Ret_mk [0] (by decide) (by rfl) (by simp only [W1, W2, TTs, implies_true, ↓addR_none, ↓reduceIte, reduceCtorEq, Nat.reduceEqDiff, Nat.reduceAdd, Nat.reduceSub, Nat.reduceMul, Nat.reduceLT, Nat.reduceLeDiff, Nat.reduceBEq, List.reduceReplicate, Int.reduceNeg, Int.reduceToNat]) (by simp only [W1, W2, TTs, implies_true, ↓addR_none, ↓reduceIte, reduceCtorEq, Nat.reduceEqDiff, Nat.reduceAdd, Nat.reduceSub, Nat.reduceMul, Nat.reduceLT, Nat.reduceLeDiff, Nat.reduceBEq, List.reduceReplicate, Int.reduceNeg, Int.reduceToNat]) (by simp only [W1, W2, TTs, implies_true, ↓addR_none, ↓reduceIte, reduceCtorEq, Nat.reduceEqDiff, Nat.reduceAdd, Nat.reduceSub, Nat.reduceMul, Nat.reduceLT, Nat.reduceLeDiff, Nat.reduceBEq, List.reduceReplicate, Int.reduceNeg, Int.reduceToNat])

theorem setMany_spl : ∀ (xs cs : List AV) (o : Nat), o + xs.length ≤ cs.length → setMany cs o xs = cs.take o ++ xs ++ cs.drop (o + xs.length)
  | [], cs, o, _ => by simp [setMany]
  | x :: xs, cs, o, h => by
    simp only [List.length_cons] at h
    rw [setMany, setMany_spl xs (cs.set o x) (o + 1) (by simp; omega), List.drop_set_of_lt (by omega)]
    have h1 : (cs.set o x).take (o + 1) = cs.take o ++ [x] := by
      rw [List.take_set, List.take_succ_eq_append_getElem (by omega), List.set_append_right _ _ (by simp; omega), List.length_take, Nat.min_eq_left (by omega), Nat.sub_self]; rfl
    rw [h1, List.length_cons, show o + 1 + xs.length = o + (xs.length + 1) by omega]; simp
theorem setMany_rep (p ys : List Int) (k : Nat) (h : ys.length ≤ k) : setMany (ints (p ++ List.replicate k 0)) p.length (ints ys) = ints (p ++ ys ++ List.replicate (k - ys.length) 0) := by
  rw [setMany_spl _ _ _ (by simp [ints]; omega), ints_take, ints_drop, ints_app, ints_app, ints_len]
  congr 1
  rw [List.take_append_of_le_length (Nat.le_refl _), List.take_length]
  have : (p ++ List.replicate k (0 : Int)).drop (p.length + ys.length) = List.replicate (k - ys.length) 0 := by
    simp [List.drop_append]
  rw [this]

def pre3 (a b c : List Int) (i : Nat) : List Int := ([a, b, c].take i).flatten
theorem pre3_0 (a b c) : pre3 a b c 0 = [] := rfl
theorem pre3_1 (a b c) : pre3 a b c 1 = a := by simp [pre3]
theorem pre3_2 (a b c) : pre3 a b c 2 = a ++ b := by simp [pre3]
theorem pre3_3 (a b c) : pre3 a b c 3 = a ++ (b ++ c) := by simp [pre3]
theorem nat_add (a b : Nat) (h : a + b ≤ 4611686018427387904) : IntKind.i64.wrap ((a : Int) + (b : Int)) = ((a + b : Nat) : Int) := by
  rw [← wrap_nat (a + b) h]; congr 1

theorem ic_Concat (a b c : List Int) (h : a.length + b.length + c.length ≤ 1000) (ha : 0 < a.length) (hb : 0 < b.length) (hc : 0 < c.length) :
    IC PP G 50 [.fz true 3 [vI true a, vI true b, vI true c]] [] (.sl 0 0 (a.length + b.length + c.length) (a.length + b.length + c.length)) [.cells 1 (ints (a ++ (b ++ c)))] := by
  refine IC_go ttOk mixed (fn := Try.f50) (by kernel_rfl) (by rfl) (by rfl) (by kernel_rfl) (by rfl) (by first | rfl | simp [cln, clns, clnB, ints_cln, strs_cln, odc_cln, u8s_cln, bools_cln, rdB, vI, vH, vS, vG, vO, vOs, vB, vC, vZ]) (by first | rfl | simp [cln, clns, clnB, ints_cln, strs_cln, odc_cln, u8s_cln, bools_cln, rdB, vI, vH, vS, vG, vO, vOs, vB, vC, vZ]) ?_
  simp only [Try.f50, W1, W2, TTs, implies_true, ↓addR_none, ↓reduceIte, reduceCtorEq, Nat.reduceEqDiff, Nat.reduceAdd, Nat.reduceSub, Nat.reduceMul, Nat.reduceLT, Nat.reduceLeDiff, Nat.reduceBEq, List.reduceReplicate, Int.reduceNeg, Int.reduceToNat]
  refine loop_intro (ι := Nat) (fun i => ([(0, .fz true 3 [vI true a, vI true b, vI true c]), (3, .i .i64 (pre3 a b c i).length), (9, .fz true 3 [vI true a, vI true b, vI true c]), (10, .i .i64 3), (11, .i .i64 i)], [])) (fun i => i ≤ 3) (fun i => 3 - i) 0 (by simp) (by refine Wk_mk [] (by decide) (by rfl) (by simp) (by simp only [W1, W2, TTs, implies_true, ↓addR_none, ↓reduceIte, reduceCtorEq, Nat.reduceEqDiff, Nat.reduceAdd, Nat.reduceSub, Nat.reduceMul, Nat.reduceLT, Nat.reduceLeDiff, Nat.reduceBEq, List.reduceReplicate, Int.reduceNeg, Int.reduceToNat, pre3_0]) (by simp only [W1, W2, TTs, implies_true, ↓addR_none, ↓reduceIte, reduceCtorEq, Nat.reduceEqDiff, Nat.reduceAdd, Nat.reduceSub, Nat.reduceMul, Nat.reduceLT, Nat.reduceLeDiff, Nat.reduceBEq, List.reduceReplicate, Int.reduceNeg, Int.reduceToNat, pre3_0]) (by simp only [W1, W2, TTs, implies_true, ↓addR_none, ↓reduceIte, reduceCtorEq, Nat.reduceEqDiff, Nat.reduceAdd, Nat.reduceSub, Nat.reduceMul, Nat.reduceLT, Nat.reduceLeDiff, Nat.reduceBEq, List.reduceReplicate, Int.reduceNeg, Int.reduceToNat, pre3_0])) ?_
  intro i hi
  rcases (by omega : i = 0 ∨ i = 1 ∨ i = 2 ∨ i = 3) with rfl | rfl | rfl | rfl
  all_goals simp only [W1, W2, TTs, implies_true, ↓addR_none, ↓reduceIte, reduceCtorEq, Nat.reduceEqDiff, Nat.reduceAdd, Nat.reduceSub, Nat.reduceMul, Nat.reduceLT, Nat.reduceLeDiff, Nat.reduceBEq, List.reduceReplicate, Int.reduceNeg, Int.reduceToNat, pre3_0, pre3_1, pre3_2, pre3_3, List.length_append, nat_add a.length b.length (by omega), nat_add (a.length + b.length) c.length (by omega), Nat.reduceMul, Int.zero_add, wrap_nat a.length (by omega), show IntKind.i64.wrap 1 = 1 from by decide, show IntKind.i64.wrap (1 + 1) = 2 from by decide, show IntKind.i64.wrap (2 + 1) = 3 from by decide]
  all_goals ((repeat' first | ((with_reducible refine drawOK_of ?_); as_aux_lemma => kernel_rfl) | assumption | apply And.intro | intro); try any_goals omega)
  · exact ⟨1, by omega, by omega, by refine Wk_mk [] (by decide) (by rfl) (by simp) (by simp only [W1, W2, TTs, implies_true, ↓addR_none, ↓reduceIte, reduceCtorEq, Nat.reduceEqDiff, Nat.reduceAdd, Nat.reduceSub, Nat.reduceMul, Nat.reduceLT, Nat.reduceLeDiff, Nat.reduceBEq, List.reduceReplicate, Int.reduceNeg, Int.reduceToNat, pre3_1]) (by simp only [W1, W2, TTs, implies_true, ↓addR_none, ↓reduceIte, reduceCtorEq, Nat.reduceEqDiff, Nat.reduceAdd, Nat.reduceSub, Nat.reduceMul, Nat.reduceLT, Nat.reduceLeDiff, Nat.reduceBEq, List.reduceReplicate, Int.reduceNeg, Int.reduceToNat, pre3_1]) (by simp only [W1, W2, TTs, implies_true, ↓addR_none, ↓reduceIte, reduceCtorEq, Nat.reduceEqDiff, Nat.reduceAdd, Nat.reduceSub, Nat.reduceMul, Nat.reduceLT, Nat.reduceLeDiff, Nat.reduceBEq, List.reduceReplicate, Int.reduceNeg, Int.reduceToNat, pre3_1])⟩
  · exact ⟨2, by omega, by omega, by refine Wk_mk [] (by decide) (by rfl) (by simp) (by simp only [W1, W2, TTs, implies_true, ↓addR_none, ↓reduceIte, reduceCtorEq, Nat.reduceEqDiff, Nat.reduceAdd, Nat.reduceSub, Nat.reduceMul, Nat.reduceLT, Nat.reduceLeDiff, Nat.reduceBEq, List.reduceReplicate, Int.reduceNeg, Int.reduceToNat, pre3_2, List.length_append]) (by simp only [W1, W2, TTs, implies_true, ↓addR_none, ↓reduceIte, reduceCtorEq, Nat.reduceEqDiff, Nat.reduceAdd, Nat.reduceSub, Nat.reduceMul, Nat.reduceLT, Nat.reduceLeDiff, Nat.reduceBEq, List.reduceReplicate, Int.reduceNeg, Int.reduceToNat, pre3_2, List.length_append]) (by simp only [W1, W2, TTs, implies_true, ↓addR_none, ↓reduceIte, reduceCtorEq, Nat.reduceEqDiff, Nat.reduceAdd, Nat.reduceSub, Nat.reduceMul, Nat.reduceLT, Nat.reduceLeDiff, Nat.reduceBEq, List.reduceReplicate, Int.reduceNeg, Int.reduceToNat, pre3_2, List.length_append])⟩
  · exact ⟨3, by omega, by omega, by refine Wk_mk [] (by decide) (by rfl) (by simp) (by simp only [W1, W2, TTs, implies_true, ↓addR_none, ↓reduceIte, reduceCtorEq, Nat.reduceEqDiff, Nat.reduceAdd, Nat.reduceSub, Nat.reduceMul, Nat.reduceLT, Nat.reduceLeDiff, Nat.reduceBEq, List.reduceReplicate, Int.reduceNeg, Int.reduceToNat, pre3_3, List.length_append, Nat.add_assoc]) (by simp only [W1, W2, TTs, implies_true, ↓addR_none, ↓reduceIte, reduceCtorEq, Nat.reduceEqDiff, Nat.reduceAdd, Nat.reduceSub, Nat.reduceMul, Nat.reduceLT, Nat.reduceLeDiff, Nat.reduceBEq, List.reduceReplicate, Int.reduceNeg, Int.reduceToNat, pre3_3, List.length_append, Nat.add_assoc]) (by simp only [W1, W2, TTs, implies_true, ↓addR_none, ↓reduceIte, reduceCtorEq, Nat.reduceEqDiff, Nat.reduceAdd, Nat.reduceSub, Nat.reduceMul, Nat.reduceLT, Nat.reduceLeDiff, Nat.reduceBEq, List.reduceReplicate, Int.reduceNeg, Int.reduceToNat, pre3_3, List.length_append, Nat.add_assoc])⟩
  (refine call_intro [] (ic_Grow (a.length + (b.length + c.length)) (by omega) (by omega)) (by first | (simp only [W1, W2, TTs, implies_true, ↓addR_none, ↓reduceIte, reduceCtorEq, Nat.reduceEqDiff, Nat.reduceAdd, Nat.reduceSub, Nat.reduceMul, Nat.reduceLT, Nat.reduceLeDiff, Nat.reduceBEq, List.reduceReplicate, Int.reduceNeg, Int.reduceToNat]; done) | exact subs_refl _ | (simp only [W1, W2, TTs, implies_true, ↓addR_none, ↓reduceIte, reduceCtorEq, Nat.reduceEqDiff, Nat.reduceAdd, Nat.reduceSub, Nat.reduceMul, Nat.reduceLT, Nat.reduceLeDiff, Nat.reduceBEq, List.reduceReplicate, Int.reduceNeg, Int.reduceToNat]; omega)) (by first | (simp only [W1, W2, TTs, implies_true, ↓addR_none, ↓reduceIte, reduceCtorEq, Nat.reduceEqDiff, Nat.reduceAdd, Nat.reduceSub, Nat.reduceMul, Nat.reduceLT, Nat.reduceLeDiff, Nat.reduceBEq, List.reduceReplicate, Int.reduceNeg, Int.reduceToNat]; done) | rfl) (by decide) (by first | (simp only [W1, W2, TTs, implies_true, ↓addR_none, ↓reduceIte, reduceCtorEq, Nat.reduceEqDiff, Nat.reduceAdd, Nat.reduceSub, Nat.reduceMul, Nat.reduceLT, Nat.reduceLeDiff, Nat.reduceBEq, List.reduceReplicate, Int.reduceNeg, Int.reduceToNat]; done) | (simp; done) | (simp [get]; done)) (by simp) ?_; simp only [W1, W2, TTs, implies_true, ↓addR_none, ↓reduceIte, reduceCtorEq, Nat.reduceEqDiff, Nat.reduceAdd, Nat.reduceSub, Nat.reduceMul, Nat.reduceLT, Nat.reduceLeDiff, Nat.reduceBEq, List.reduceReplicate, Int.reduceNeg, Int.reduceToNat, Nat.add_assoc]; (repeat' first | ((with_reducible refine drawOK_of ?_); as_aux_lemma => kernel_rfl) | assumption | apply And.intro | intro); all_goals first | omega | (refine Eq.symm ?_; first | (simp_all [ints]; done) | (simp_all [ints]; omega) | (simp [ints]; omega)) | skip)
  refine loop_intro (ι := Nat) (fun i => ([(6, .sl 0 0 (pre3 a b c i).length (a.length + (b.length + c.length))), (25, .fz true 3 [vI true a, vI true b, vI true c]), (26, .i .i64 3), (27, .i .i64 i)],
    [.cells 1 (ints (pre3 a b c i ++ List.replicate (a.length + (b.length + c.length) - (pre3 a b c i).length) 0))])) (fun i => i ≤ 3) (fun i => 3 - i) 0 (by simp) (by refine Wk_mk [0] (by decide) (by rfl) (by simp) (by simp only [W1, W2, TTs, implies_true, ↓addR_none, ↓reduceIte, reduceCtorEq, Nat.reduceEqDiff, Nat.reduceAdd, Nat.reduceSub, Nat.reduceMul, Nat.reduceLT, Nat.reduceLeDiff, Nat.reduceBEq, List.reduceReplicate, Int.reduceNeg, Int.reduceToNat, pre3_0, Nat.sub_zero]) (by simp only [W1, W2, TTs, implies_true, ↓addR_none, ↓reduceIte, reduceCtorEq, Nat.reduceEqDiff, Nat.reduceAdd, Nat.reduceSub, Nat.reduceMul, Nat.reduceLT, Nat.reduceLeDiff, Nat.reduceBEq, List.reduceReplicate, Int.reduceNeg, Int.reduceToNat, pre3_0, Nat.sub_zero]) (by simp only [W1, W2, TTs, implies_true, ↓addR_none, ↓reduceIte, reduceCtorEq, Nat.reduceEqDiff, Nat.reduceAdd, Nat.reduceSub, Nat.reduceMul, Nat.reduceLT, Nat.reduceLeDiff, Nat.reduceBEq, List.reduceReplicate, Int.reduceNeg, Int.reduceToNat, pre3_0, Nat.sub_zero])) ?_
  intro i hi
  have e1 := setMany_rep [] a (a.length + (b.length + c.length)) (by omega)
  have e2 := setMany_rep a b (a.length + (b.length + c.length) - a.length) (by omega)
  have e3 := setMany_rep (a ++ b) c (a.length + (b.length + c.length) - (a.length + b.length)) (by omega)
  rw [List.nil_append, List.nil_append, List.length_nil] at e1
  rw [List.length_append] at e3
  have n1 : ¬ (0 = a.length + (b.length + c.length)) := by omega
  have n2 : ¬ (a.length = a.length + (b.length + c.length)) := by omega
  have n3 : ¬ (a.length + b.length = a.length + (b.length + c.length)) := by omega
  rcases (by omega : i = 0 ∨ i = 1 ∨ i = 2 ∨ i = 3) with rfl | rfl | rfl | rfl
  all_goals simp only [W1, W2, TTs, implies_true, ↓addR_none, ↓reduceIte, reduceCtorEq, Nat.reduceEqDiff, Nat.reduceAdd, Nat.reduceSub, Nat.reduceMul, Nat.reduceLT, Nat.reduceLeDiff, Nat.reduceBEq, List.reduceReplicate, Int.reduceNeg, Int.reduceToNat, pre3_0, pre3_1, pre3_2, pre3_3, List.length_append, Nat.sub_zero, n1, n2, n3, e1, e2, e3, show IntKind.i64.wrap (0 + 1) = 1 from by decide, show IntKind.i64.wrap 1 = 1 from by decide, show IntKind.i64.wrap (1 + 1) = 2 from by decide, show IntKind.i64.wrap (2 + 1) = 3 from by decide]
  all_goals ((repeat' first | ((with_reducible refine drawOK_of ?_); as_aux_lemma => kernel_rfl) | assumption | apply And.intro | intro); try any_goals omega)
  · exact ⟨1, by omega, by omega, by refine Wk_mk [0] (by decide) (by rfl) (by simp) (by simp only [W1, W2, TTs, implies_true, ↓addR_none, ↓reduceIte, reduceCtorEq, Nat.reduceEqDiff, Nat.reduceAdd, Nat.reduceSub, Nat.reduceMul, Nat.reduceLT, Nat.reduceLeDiff, Nat.reduceBEq, List.reduceReplicate, Int.reduceNeg, Int.reduceToNat, pre3_1]) (by simp only [W1, W2, TTs, implies_true, ↓addR_none, ↓reduceIte, reduceCtorEq, Nat.reduceEqDiff, Nat.reduceAdd, Nat.reduceSub, Nat.reduceMul, Nat.reduceLT, Nat.reduceLeDiff, Nat.reduceBEq, List.reduceReplicate, Int.reduceNeg, Int.reduceToNat, pre3_1]) (by simp only [W1, W2, TTs, implies_true, ↓addR_none, ↓reduceIte, reduceCtorEq, Nat.reduceEqDiff, Nat.reduceAdd, Nat.reduceSub, Nat.reduceMul, Nat.reduceLT, Nat.reduceLeDiff, Nat.reduceBEq, List.reduceReplicate, Int.reduceNeg, Int.reduceToNat, pre3_1])⟩
  · exact ⟨2, by omega, by omega, by refine Wk_mk [0] (by decide) (by rfl) (by simp) (by simp only [W1, W2, TTs, implies_true, ↓addR_none, ↓reduceIte, reduceCtorEq, Nat.reduceEqDiff, Nat.reduceAdd, Nat.reduceSub, Nat.reduceMul, Nat.reduceLT, Nat.reduceLeDiff, Nat.reduceBEq, List.reduceReplicate, Int.reduceNeg, Int.reduceToNat, pre3_2, List.length_append, Nat.sub_sub]) (by simp only [W1, W2, TTs, implies_true, ↓addR_none, ↓reduceIte, reduceCtorEq, Nat.reduceEqDiff, Nat.reduceAdd, Nat.reduceSub, Nat.reduceMul, Nat.reduceLT, Nat.reduceLeDiff, Nat.reduceBEq, List.reduceReplicate, Int.reduceNeg, Int.reduceToNat, pre3_2, List.length_append, Nat.sub_sub]) (by simp only [W1, W2, TTs, implies_true, ↓addR_none, ↓reduceIte, reduceCtorEq, Nat.reduceEqDiff, Nat.reduceAdd, Nat.reduceSub, Nat.reduceMul, Nat.reduceLT, Nat.reduceLeDiff, Nat.reduceBEq, List.reduceReplicate, Int.reduceNeg, Int.reduceToNat, pre3_2, List.length_append, Nat.sub_sub])⟩
  · exact ⟨3, by omega, by omega, by refine Wk_mk [0] (by decide) (by rfl) (by simp) (by simp only [W1, W2, TTs, implies_true, ↓addR_none, ↓reduceIte, reduceCtorEq, Nat.reduceEqDiff, Nat.reduceAdd, Nat.reduceSub, Nat.reduceMul, Nat.reduceLT, Nat.reduceLeDiff, Nat.reduceBEq, List.reduceReplicate, Int.reduceNeg, Int.reduceToNat, pre3_3, List.length_append, Nat.sub_sub, List.append_assoc, Nat.add_assoc]) (by simp only [W1, W2, TTs, implies_true, ↓addR_none, ↓reduceIte, reduceCtorEq, Nat.reduceEqDiff, Nat.reduceAdd, Nat.reduceSub, Nat.reduceMul, Nat.reduceLT, Nat.reduceLeDiff, Nat.reduceBEq, List.reduceReplicate, Int.reduceNeg, Int.reduceToNat, pre3_3, List.length_append, Nat.sub_sub, List.append_assoc, Nat.add_assoc]) (by simp only [W1, W2, TTs, implies_true, ↓addR_none, ↓reduceIte, reduceCtorEq, Nat.reduceEqDiff, Nat.reduceAdd, Nat.reduceSub, Nat.reduceMul, Nat.reduceLT, Nat.reduceLeDiff, Nat.reduceBEq, List.reduceReplicate, Int.reduceNeg, Int.reduceToNat, pre3_3, List.length_append, Nat.sub_sub, List.append_assoc, Nat.add_assoc])⟩
  · refine Ret_mk [0] (by decide) (by rfl) (by simp only [W1, W2, TTs, implies_true, ↓addR_none, ↓reduceIte, reduceCtorEq, Nat.reduceEqDiff, Nat.reduceAdd, Nat.reduceSub, Nat.reduceMul, Nat.reduceLT, Nat.reduceLeDiff, Nat.reduceBEq, List.reduceReplicate, Int.reduceNeg, Int.reduceToNat, List.append_assoc, Nat.add_assoc, Nat.sub_self]) (by simp only [W1, W2, TTs, implies_true, ↓addR_none, ↓reduceIte, reduceCtorEq, Nat.reduceEqDiff, Nat.reduceAdd, Nat.reduceSub, Nat.reduceMul, Nat.reduceLT, Nat.reduceLeDiff, Nat.reduceBEq, List.reduceReplicate, Int.reduceNeg, Int.reduceToNat, List.append_assoc, Nat.add_assoc, Nat.sub_self]) (by simp only [W1, W2, TTs, implies_true, ↓addR_none, ↓reduceIte, reduceCtorEq, Nat.reduceEqDiff, Nat.reduceAdd, Nat.reduceSub, Nat.reduceMul, Nat.reduceLT, Nat.reduceLeDiff, Nat.reduceBEq, List.reduceReplicate, Int.reduceNeg, Int.reduceToNat, List.append_assoc, Nat.add_assoc, Nat.sub_self])

theorem ic_CloneNil : IC PP G 32 [.nilS] [] .nilS [] := by
  refine IC_go ttOk mixed (fn := Try.f32) (by kernel_rfl) (by rfl) (by rfl) (by kernel_rfl) (by rfl) (by first | rfl | simp [cln, clns, clnB, ints_cln, strs_cln, odc_cln, u8s_cln, bools_cln, rdB, vI, vH, vS, vG, vO, vOs, vB, vC, vZ]) (by first | rfl | simp [cln, clns, clnB, ints_cln, strs_cln, odc_cln, u8s_cln, bools_cln, rdB, vI, vH, vS, vG, vO, vOs, vB, vC, vZ]) ?_
  simp only [Try.f32, W1, W2, TTs, implies_true, ↓addR_none, ↓reduceIte, reduceCtorEq, Nat.reduceEqDiff, Nat.reduceAdd, Nat.reduceSub, Nat.reduceMul, Nat.reduceLT, Nat.reduceLeDiff, Nat.reduceBEq, List.reduceReplicate, Int.reduceNeg, Int.reduceToNat]
  ((repeat' first | ((with_reducible refine drawOK_of ?_); as_aux_lemma => kernel_rfl) | assumption | apply And.intro | intro); try any_goals omega)

theorem ic_ClonePos (l : List Int) (h0 : 0 < l.length) (hl : l.length ≤ 4294967296) : IC PP G 32 [vI true l] [] (.sl 0 0 l.length l.length) [.cells 1 (ints l)] := by
  refine IC_go ttOk mixed (fn := Try.f32) (by kernel_rfl) (by rfl) (by rfl) (by kernel_rfl) (by rfl) (by first | rfl | simp [cln, clns, clnB, ints_cln, strs_cln, odc_cln, u8s_cln, bools_cln, rdB, vI, vH, vS, vG, vO, vOs, vB, vC, vZ]) (by first | rfl | simp [cln, clns, clnB, ints_cln, strs_cln, odc_cln, u8s_cln, bools_cln, rdB, vI, vH, vS, vG, vO, vOs, vB, vC, vZ]) ?_
  simp only [Try.f32, W1, W2, TTs, implies_true, ↓addR_none, ↓reduceIte, reduceCtorEq, Nat.reduceEqDiff, Nat.reduceAdd, Nat.reduceSub, Nat.reduceMul, Nat.reduceLT, Nat.reduceLeDiff, Nat.reduceBEq, List.reduceReplicate, Int.reduceNeg, Int.reduceToNat]
  ((repeat' first | ((with_reducible refine drawOK_of ?_); as_aux_lemma => kernel_rfl) | assumption | apply And.intro | intro); try any_goals omega)
  refine Ret_mk [0] (by decide) (by rfl) (by simp only [W1, W2, TTs, implies_true, ↓addR_none, ↓reduceIte, reduceCtorEq, Nat.reduceEqDiff, Nat.reduceAdd, Nat.reduceSub, Nat.reduceMul, Nat.reduceLT, Nat.reduceLeDiff, Nat.reduceBEq, List.reduceReplicate, Int.reduceNeg, Int.reduceToNat]) (by simp only [W1, W2, TTs, implies_true, ↓addR_none, ↓reduceIte, reduceCtorEq, Nat.reduceEqDiff, Nat.reduceAdd, Nat.reduceSub, Nat.reduceMul, Nat.reduceLT, Nat.reduceLeDiff, Nat.reduceBEq, List.reduceReplicate, Int.reduceNeg, Int.reduceToNat]) (by simp only [W1, W2, TTs, implies_true, ↓addR_none, ↓reduceIte, reduceCtorEq, Nat.reduceEqDiff, Nat.reduceAdd, Nat.reduceSub, Nat.reduceMul, Nat.reduceLT, Nat.reduceLeDiff, Nat.reduceBEq, List.reduceReplicate, Int.reduceNeg, Int.reduceToNat])

/-- A row of no cells that lies nowhere. -/
theorem ghost {C : Cx} (hH : HR C) {id sz : Nat} (hid : C.g id = .hole) : Le C ⟨C.φ, upd1 C.g id (.cells sz []), C.Bo, C.G, C.w⟩ ∧ HR ⟨C.φ, upd1 C.g id (.cells sz []), C.Bo, C.G, C.w⟩ := by
  have hlive : ∀ b, (upd1 C.g id (.cells sz []) b).live = true → (C.g b).live = true := fun b h => by
    by_cases e : b = id
    · subst e; rw [upd1_same] at h; cases h
    · rwa [upd1_ne _ _ e] at h
  have hle : Le C ⟨C.φ, upd1 C.g id (.cells sz []), C.Bo, C.G, C.w⟩ := {
    os := rfl
    tape := rfl
    output := rfl
    size := Nat.le_refl _
    keep := fun _ _ _ => rfl
    fresh := by rintro c ⟨b, hl, rfl⟩; exact .inl ⟨b, hlive b hl, rfl⟩
    bo := rfl
    gl := rfl
    ref := fun b => by
      by_cases e : b = id
      · subst e; rw [hid]; trivial
      · cases hb : C.g b with
        | hole => trivial
        | dead => show upd1 C.g id _ b = .dead; rw [upd1_ne _ _ e]; exact hb
        | cells s cs => exact .inr ⟨cs, by show upd1 C.g id _ b = _; rw [upd1_ne _ _ e]; exact hb, .inr ⟨rfl, rfl, .inr (.refl _ _)⟩⟩
        | map es => exact .inr ⟨es, by show upd1 C.g id _ b = _; rw [upd1_ne _ _ e]; exact hb, rfl⟩ }
  refine ⟨hle, ⟨fun b => ?_, fun b b' h h' he => hH.inj b b' (hlive b h) (hlive b' h') he, hH.bo, fun i => hle.vd (hH.gl i)⟩⟩
  show BlkR _ b (upd1 C.g id _ b)
  by_cases e : b = id
  · subst e; rw [upd1_same]; exact .inl rfl
  · rw [upd1_ne _ _ e]
    have h0 := hH.blk b
    cases hb : C.g b with
    | hole => trivial
    | dead => trivial
    | cells s cs =>
      rw [hb] at h0
      rcases h0 with rfl | ⟨h1, h2, arr, el, h3, h4, h5⟩
      · exact .inl rfl
      · exact .inr ⟨h1, h2, arr, el, h3, h4, fun i x hx => by obtain ⟨v, hv, hr⟩ := h5 i x hx; exact ⟨v, hv, hle.vr x v hr⟩⟩
    | map es => rw [hb] at h0; exact h0

theorem clone_some (a : Addr) (c : Nat) (w : World) : Calls PP 32 #[.slice (some a) 0 c] w fun e w' => e = .returned (.slice (some ⟨w.heap.size, 0, none⟩) 0 0) ∧ ∃ t, w' = w.alloc (.cells #[] t (0, 0)) := by
  have h1 : (binOp BinOp.eql 23 (.slice (some a) 0 c) (.slice none 0 0)).run PP w = .ok (.bool false) w := by
    have h2 := run_equal_slice_nil (P := PP) w 23 3 (some a) 0 c (by kernel_rfl)
    show (do pure (.bool (← Op.equal 23 _ _)) : Sem Value).run PP w = _
    rw [Sem.run_bind, h2]; rfl
  go_enter Try.func32, Try.ntmps32
  go_wp2
  exact bodyPost_ret (v := .slice (some ⟨w.heap.size, 0, none⟩) 0 0) (by simp [results, Try.results32, go_sem]) rfl ⟨rfl, _, rfl⟩

theorem clone_none (c : Nat) (w : World) : Calls PP 32 #[.slice none 0 c] w fun e w' => e = .returned (.slice none 0 0) ∧ w' = w := by
  have h1 : (binOp BinOp.eql 23 (.slice none 0 c) (.slice none 0 0)).run PP w = .ok (.bool true) w := by
    have h2 := run_equal_slice_nil (P := PP) w 23 3 none 0 c (by kernel_rfl)
    show (do pure (.bool (← Op.equal 23 _ _)) : Sem Value).run PP w = _
    rw [Sem.run_bind, h2]; rfl
  go_enter Try.func32, Try.ntmps32
  go_wp2
  exact bodyPost_ret (v := .slice none 0 0) (by simp [results, Try.results32, go_sem]) rfl ⟨rfl, rfl⟩

theorem get_nil : get [] = fun _ => .hole := by funext b; simp [get]
theorem get_ghost : get [.cells 1 []] = upd1 (fun _ => .hole) 0 (.cells 1 []) := by
  funext b; cases b <;> simp [get, upd1]

theorem ic_CloneEmpty (t : Bool) (cs : List AV) : IC PP G 32 [.fz t 0 cs] [] (.sl 0 0 0 0) [.cells 1 (ints [])] := by
  refine ⟨⟨Try.f32, by kernel_rfl, by rfl, by rfl⟩, rfl, rfl, fun C vs hG hg hH ha => ?_⟩
  obtain ⟨v, vs', h1, ⟨a, c, rfl, h2, h3⟩, h4⟩ := ha
  have hvs : vs = #[.slice a 0 c] := by rw [← Array.toArray_toList (xs := vs), h1, show vs' = [] from h4]
  subst hvs
  have hC : C = ⟨C.φ, get [], C.Bo, C.G, C.w⟩ := by rw [← hg]
  have hid : C.g 0 = .hole := by rw [hg]; rfl
  cases a with
  | none =>
    refine Calls.mono (clone_none c C.w) ?_
    rintro e w' ⟨rfl, rfl⟩
    obtain ⟨g1, g2⟩ := ghost (sz := 1) hH hid
    rw [hg, get_nil, ← get_ghost] at g1 g2
    exact ⟨_, C.φ, rfl, ⟨none, 0, rfl, Nat.le_refl _, Nat.le_refl _, by simp [get], fun sz cs h => by cases h; exact ⟨by simp, fun _ => .inl ⟨rfl, rfl⟩⟩⟩, g2, g1⟩
  | some a =>
    refine Calls.mono (clone_some a c C.w) ?_
    rintro e w' ⟨rfl, t, rfl⟩
    obtain ⟨g1, g2⟩ := new_block hH hid (.cells 1 []) (.cells #[] t (0, 0)) ⟨#[], t, rfl, by simp, fun i x hx => by simp at hx⟩
    rw [hg, get_nil, ← get_ghost] at g1 g2
    exact ⟨_, _, rfl, ⟨_, 0, rfl, Nat.le_refl _, Nat.le_refl _, by simp [get], fun sz cs h => by cases h; exact ⟨by simp, fun _ => .inl ⟨rfl, rfl⟩⟩⟩, g2, g1⟩

theorem ic_Clone (l : List Int) (hl : l.length ≤ 4294967296) : IC PP G 32 [vI true l] [] (.sl 0 0 l.length l.length) [.cells 1 (ints l)] := by
  cases l with
  | nil => exact ic_CloneEmpty true _
  | cons x l => exact ic_ClonePos (x :: l) (by simp) hl
end Go.Proofs.Ytdacfgclclpooaa
