/- Contracts of the reference's random source. Conditions: none. -/
import Derived.Test.YtdacfgclclpooaaI6
namespace Go.Proofs.Ytdacfgclclpooaa
open Go Go.RowKit
set_option linter.unusedVariables false
set_option linter.unusedSimpArgs false
attribute [local irreducible] LoopP CallP Plain Exec Gd runS awp KR Ret RR LoopK SeqC BlkK CondP sub
variable {G : Nat → AV}

theorem ic_s_l13Open (b : List UInt8) (hb : b.length ≤ 4294967296) : IC PP G 42 [.fz false b.length (u8s b)] [] (.p 0 0 2) [rdB (b.take 2000) 0] := by
  refine IC_go ttOk mixed (fn := Try.f42) (by kernel_rfl) (by rfl) (by rfl) (by kernel_rfl) (by rfl) (by first | rfl | simp [cln, clns, clnB, ints_cln, strs_cln, odc_cln, u8s_cln, bools_cln, rdB, vI, vH, vS, vG, vO, vOs, vB, vC, vZ]) (by first | rfl | simp [cln, clns, clnB, ints_cln, strs_cln, odc_cln, u8s_cln, bools_cln, rdB, vI, vH, vS, vG, vO, vOs, vB, vC, vZ]) ?_
  simp only [Try.f42, W1, W2, TTs, implies_true, ↓addR_none, ↓reduceIte, reduceCtorEq, Nat.reduceEqDiff, Nat.reduceAdd, Nat.reduceSub, Nat.reduceMul, Nat.reduceLT, Nat.reduceLeDiff, Nat.reduceBEq, List.reduceReplicate, Int.reduceNeg, Int.reduceToNat]
  ((repeat' first | ((with_reducible refine drawOK_of ?_); as_aux_lemma => kernel_rfl) | assumption | apply And.intro | intro); try any_goals omega)
  · rename_i k
    have : min 2000 b.length = 2000 := by omega
    refine Ret_mk [0] (by decide) (by rfl) (by simp only [W1, W2, TTs, implies_true, ↓addR_none, ↓reduceIte, reduceCtorEq, Nat.reduceEqDiff, Nat.reduceAdd, Nat.reduceSub, Nat.reduceMul, Nat.reduceLT, Nat.reduceLeDiff, Nat.reduceBEq, List.reduceReplicate, Int.reduceNeg, Int.reduceToNat, this]) (by simp only [W1, W2, TTs, implies_true, ↓addR_none, ↓reduceIte, reduceCtorEq, Nat.reduceEqDiff, Nat.reduceAdd, Nat.reduceSub, Nat.reduceMul, Nat.reduceLT, Nat.reduceLeDiff, Nat.reduceBEq, List.reduceReplicate, Int.reduceNeg, Int.reduceToNat, this]) (by simp only [W1, W2, TTs, implies_true, ↓addR_none, ↓reduceIte, reduceCtorEq, Nat.reduceEqDiff, Nat.reduceAdd, Nat.reduceSub, Nat.reduceMul, Nat.reduceLT, Nat.reduceLeDiff, Nat.reduceBEq, List.reduceReplicate, Int.reduceNeg, Int.reduceToNat, this])
  · rename_i k
    have : min 2000 b.length = b.length := by omega
    refine Ret_mk [0] (by decide) (by rfl) (by simp only [W1, W2, TTs, implies_true, ↓addR_none, ↓reduceIte, reduceCtorEq, Nat.reduceEqDiff, Nat.reduceAdd, Nat.reduceSub, Nat.reduceMul, Nat.reduceLT, Nat.reduceLeDiff, Nat.reduceBEq, List.reduceReplicate, Int.reduceNeg, Int.reduceToNat, this, List.take_of_length_le (show b.length ≤ 2000 by omega)]) (by simp only [W1, W2, TTs, implies_true, ↓addR_none, ↓reduceIte, reduceCtorEq, Nat.reduceEqDiff, Nat.reduceAdd, Nat.reduceSub, Nat.reduceMul, Nat.reduceLT, Nat.reduceLeDiff, Nat.reduceBEq, List.reduceReplicate, Int.reduceNeg, Int.reduceToNat, this, List.take_of_length_le (show b.length ≤ 2000 by omega)]) (by simp only [W1, W2, TTs, implies_true, ↓addR_none, ↓reduceIte, reduceCtorEq, Nat.reduceEqDiff, Nat.reduceAdd, Nat.reduceSub, Nat.reduceMul, Nat.reduceLT, Nat.reduceLeDiff, Nat.reduceBEq, List.reduceReplicate, Int.reduceNeg, Int.reduceToNat, this, List.take_of_length_le (show b.length ≤ 2000 by omega)])

theorem trem_bd {a n : Int} (ha : 0 ≤ a) (hn : 1 ≤ n) : 0 ≤ a.tmod n ∧ a.tmod n < n := by
  rw [Int.tmod_eq_emod_of_nonneg ha]; exact ⟨Int.emod_nonneg _ (by omega), Int.emod_lt_of_pos _ (by omega)⟩

theorem xor_nn {x : Int} (h0 : 0 ≤ x) (h1 : x < 1073741824) : 0 ≤ IntKind.i64.wrap ((BitVec.ofInt 64 x ^^^ BitVec.ofInt 64 (x.tdiv 64)).toNat : Int) := by
  have hd : 0 ≤ x.tdiv 64 ∧ x.tdiv 64 < 1073741824 := by rw [Int.tdiv_eq_ediv_of_nonneg h0]; omega
  have e : ∀ y : Int, 0 ≤ y → y < 1073741824 → (BitVec.ofInt 64 y).toNat < 2 ^ 30 := fun y h2 h3 => by rw [BitVec.toNat_ofInt]; omega
  have h2 := Nat.xor_lt_two_pow (e x h0 h1) (e _ hd.1 hd.2)
  rw [BitVec.toNat_xor, wrap_nat _ (by omega)]
  omega

theorem ic_pick (b : List UInt8) (p : Nat) (n : Int) (hb : b.length ≤ 2000) (hp : p ≤ 1000000) : ∃ k : Int, 0 ≤ k ∧ (1 ≤ n → k < n) ∧ IC PP G 54 [.p 0 0 2, .i .i64 n] [rdB b p] (.i .i64 k) [rdB b ((p + 1 : Nat) : Int)] := by
  by_cases h1 : n < 1
  · refine ⟨0, by omega, by omega, ?_⟩
    refine IC_go ttOk mixed (fn := Try.f54) (by kernel_rfl) (by rfl) (by rfl) (by kernel_rfl) (by rfl) (by first | rfl | simp [cln, clns, clnB, ints_cln, strs_cln, odc_cln, u8s_cln, bools_cln, rdB, vI, vH, vS, vG, vO, vOs, vB, vC, vZ]) (by first | rfl | simp [cln, clns, clnB, ints_cln, strs_cln, odc_cln, u8s_cln, bools_cln, rdB, vI, vH, vS, vG, vO, vOs, vB, vC, vZ]) ?_
    simp only [Try.f54, W1, W2, TTs, implies_true, ↓addR_none, ↓reduceIte, reduceCtorEq, Nat.reduceEqDiff, Nat.reduceAdd, Nat.reduceSub, Nat.reduceMul, Nat.reduceLT, Nat.reduceLeDiff, Nat.reduceBEq, List.reduceReplicate, Int.reduceNeg, Int.reduceToNat, wrap_succ p (by omega), h1, decide_true]
    ((repeat' first | ((with_reducible refine drawOK_of ?_); as_aux_lemma => kernel_rfl) | assumption | apply And.intro | intro); try any_goals omega)
  · have hn : 1 ≤ n := by omega
    by_cases h2 : b.length = 0
    · have h2' : b = [] := List.eq_nil_of_length_eq_zero h2
      subst h2'
      refine ⟨0, by omega, by omega, ?_⟩
      refine IC_go ttOk mixed (fn := Try.f54) (by kernel_rfl) (by rfl) (by rfl) (by kernel_rfl) (by rfl) (by first | rfl | simp [cln, clns, clnB, ints_cln, strs_cln, odc_cln, u8s_cln, bools_cln, rdB, vI, vH, vS, vG, vO, vOs, vB, vC, vZ]) (by first | rfl | simp [cln, clns, clnB, ints_cln, strs_cln, odc_cln, u8s_cln, bools_cln, rdB, vI, vH, vS, vG, vO, vOs, vB, vC, vZ]) ?_
      simp only [Try.f54, W1, W2, TTs, implies_true, ↓addR_none, ↓reduceIte, reduceCtorEq, Nat.reduceEqDiff, Nat.reduceAdd, Nat.reduceSub, Nat.reduceMul, Nat.reduceLT, Nat.reduceLeDiff, Nat.reduceBEq, List.reduceReplicate, Int.reduceNeg, Int.reduceToNat, wrap_succ p (by omega), h1, decide_false, decide_true]
      ((repeat' first | ((with_reducible refine drawOK_of ?_); as_aux_lemma => kernel_rfl) | assumption | apply And.intro | intro); try any_goals omega)
    · by_cases h3 : p < b.length
      · obtain ⟨q1, q2⟩ := trem_bd (a := ((b.getD p 0).toNat : Int)) (n := n) (by omega) hn
        refine ⟨((b.getD p 0).toNat : Int).tmod n, q1, fun _ => q2, ?_⟩
        have h4 : (b.getD p 0).toNat < 256 := UInt8.toNat_lt _
        refine IC_go ttOk mixed (fn := Try.f54) (by kernel_rfl) (by rfl) (by rfl) (by kernel_rfl) (by rfl) (by first | rfl | simp [cln, clns, clnB, ints_cln, strs_cln, odc_cln, u8s_cln, bools_cln, rdB, vI, vH, vS, vG, vO, vOs, vB, vC, vZ]) (by first | rfl | simp [cln, clns, clnB, ints_cln, strs_cln, odc_cln, u8s_cln, bools_cln, rdB, vI, vH, vS, vG, vO, vOs, vB, vC, vZ]) ?_
        simp only [Try.f54, W1, W2, TTs, implies_true, ↓addR_none, ↓reduceIte, reduceCtorEq, Nat.reduceEqDiff, Nat.reduceAdd, Nat.reduceSub, Nat.reduceMul, Nat.reduceLT, Nat.reduceLeDiff, Nat.reduceBEq, List.reduceReplicate, Int.reduceNeg, Int.reduceToNat, wrap_succ p (by omega), h1, decide_false, wrap_nat (b.getD p 0).toNat (by omega), show ((p + 1 : Nat) : Int) - 1 = p by omega, wrap_nat p (by omega)]
        ((repeat' first | ((with_reducible refine drawOK_of ?_); as_aux_lemma => kernel_rfl) | assumption | apply And.intro | intro); try any_goals omega)
      · have hl : (1 : Int) ≤ b.length := by omega
        obtain ⟨q1, q2⟩ := trem_bd (a := (p : Int)) (n := (b.length : Int)) (by omega) hl
        obtain ⟨q3, q4⟩ := trem_bd (a := (p : Int) * 7 + 3) (n := (b.length : Int)) (by omega) hl
        have q5 : 0 ≤ (p : Int).tdiv b.length ∧ (p : Int).tdiv b.length ≤ p := by
          rw [Int.tdiv_eq_ediv_of_nonneg (by omega)]
          exact ⟨Int.ediv_nonneg (by omega) (by omega), Int.ediv_le_self _ (by omega)⟩
        have h4 : (b.getD ((p : Int).tmod b.length).toNat 0).toNat < 256 := UInt8.toNat_lt _
        have h5 : (b.getD (((p : Int) * 7 + 3).tmod b.length).toNat 0).toNat < 256 := UInt8.toNat_lt _
        have w1 : IntKind.i64.wrap (((b.getD ((p : Int).tmod b.length).toNat 0).toNat : Int)) = ((b.getD ((p : Int).tmod b.length).toNat 0).toNat : Int) := wrap_nat _ (by omega)
        have w2 : IntKind.i64.wrap (((b.getD (((p : Int) * 7 + 3).tmod b.length).toNat 0).toNat : Int)) = ((b.getD (((p : Int) * 7 + 3).tmod b.length).toNat 0).toNat : Int) := wrap_nat _ (by omega)
        have e1 : IntKind.i64.wrap ((p : Int) * 7) = (p : Int) * 7 := wrap_id (by omega) (by omega)
        have e2 : IntKind.i64.wrap ((p : Int) * 7 + 3) = (p : Int) * 7 + 3 := wrap_id (by omega) (by omega)
        have e6 : IntKind.i64.wrap ((p : Int) * 29) = (p : Int) * 29 := wrap_id (by omega) (by omega)
        generalize hr1 : (p : Int).tmod b.length = r1 at *
        generalize hr2 : ((p : Int) * 7 + 3).tmod b.length = r2 at *
        generalize hr3 : (p : Int).tdiv b.length = r3 at *
        generalize hc1 : ((b.getD r1.toNat 0).toNat : Int) = c1 at *
        generalize hc2 : ((b.getD r2.toNat 0).toNat : Int) = c2 at *
        have h4' : 0 ≤ c1 ∧ c1 < 256 := by omega
        have h5' : 0 ≤ c2 ∧ c2 < 256 := by omega
        have e3 : IntKind.i64.wrap (c1 * 131) = c1 * 131 := wrap_id (by omega) (by omega)
        have e4 : IntKind.i64.wrap (c2 * 1117) = c2 * 1117 := wrap_id (by omega) (by omega)
        have e5 : IntKind.i64.wrap (c1 * 131 + c2 * 1117) = c1 * 131 + c2 * 1117 := wrap_id (by omega) (by omega)
        have e7 : IntKind.i64.wrap (c1 * 131 + c2 * 1117 + (p : Int) * 29) = c1 * 131 + c2 * 1117 + (p : Int) * 29 := wrap_id (by omega) (by omega)
        have e8 : IntKind.i64.wrap r3 = r3 := wrap_id (by omega) (by omega)
        have e9 : IntKind.i64.wrap (r3 * 53) = r3 * 53 := wrap_id (by omega) (by omega)
        have e10 : IntKind.i64.wrap (c1 * 131 + c2 * 1117 + (p : Int) * 29 + r3 * 53) = c1 * 131 + c2 * 1117 + (p : Int) * 29 + r3 * 53 := wrap_id (by omega) (by omega)
        obtain ⟨X, hX, hX0, hX1⟩ : ∃ X : Int, c1 * 131 + c2 * 1117 + (p : Int) * 29 + r3 * 53 = X ∧ 0 ≤ X ∧ X < 1073741824 := ⟨_, rfl, by omega, by omega⟩
        have e11 : IntKind.i64.wrap (X.tdiv 64) = X.tdiv 64 := by
          have hd : 0 ≤ X.tdiv 64 ∧ X.tdiv 64 < 1073741824 := by rw [Int.tdiv_eq_ediv_of_nonneg hX0]; omega
          exact wrap_id (by omega) (by omega)
        have e12 : IntKind.i64.wrap X = X := wrap_id (by omega) (by omega)
        obtain ⟨K, hK, hK0⟩ : ∃ K : Int, IntKind.i64.wrap ((BitVec.ofInt IntKind.i64.bits X ^^^ BitVec.ofInt IntKind.i64.bits (X.tdiv 64)).toNat : Int) = K ∧ 0 ≤ K := ⟨_, rfl, xor_nn hX0 hX1⟩
        obtain ⟨q6, q7⟩ := trem_bd hK0 hn
        have h2i : ¬ (b.length : Int) = 0 := by omega
        have hni : ¬ n = 0 := by omega
        have j1 : ¬ r1 < 0 := by omega
        refine ⟨_, q6, fun _ => q7, ?_⟩
        refine IC_go ttOk mixed (fn := Try.f54) (by kernel_rfl) (by rfl) (by rfl) (by kernel_rfl) (by rfl) (by first | rfl | simp [cln, clns, clnB, ints_cln, strs_cln, odc_cln, u8s_cln, bools_cln, rdB, vI, vH, vS, vG, vO, vOs, vB, vC, vZ]) (by first | rfl | simp [cln, clns, clnB, ints_cln, strs_cln, odc_cln, u8s_cln, bools_cln, rdB, vI, vH, vS, vG, vO, vOs, vB, vC, vZ]) ?_
        simp only [Try.f54, W1, W2, TTs, implies_true, ↓addR_none, ↓reduceIte, reduceCtorEq, Nat.reduceEqDiff, Nat.reduceAdd, Nat.reduceSub, Nat.reduceMul, Nat.reduceLT, Nat.reduceLeDiff, Nat.reduceBEq, List.reduceReplicate, Int.reduceNeg, Int.reduceToNat, wrap_succ p (by omega), h1, decide_false, show ((p + 1 : Nat) : Int) - 1 = p by omega, wrap_nat p (by omega), h2i, h3, hni, e1, e2, hr1, hr2, hr3, hc1, hc2, w1, w2, e3, e4, e5, e6, e7, e8, e9, e10, hX, e12, e11, hK, q1, q2, q3, q4]
        refine ⟨by omega, by omega, ?_, by decide⟩
        refine drawOK_of ?_; kernel_rfl

theorem ic_num (b : List UInt8) (p : Nat) (l : List Int) (hb : b.length ≤ 2000) (hp : p ≤ 1000000) (hl : 0 < l.length) : ∃ x ∈ l, IC PP G 45 [.p 0 0 2, vI true l] [rdB b p] (.i .i64 x) [rdB b ((p + 1 : Nat) : Int)] := by
  obtain ⟨k, k0, k1, h⟩ := ic_pick (G := G) b p l.length hb hp
  have k2 := k1 (by omega)
  refine ⟨l.getD k.toNat 0, getD_mem (by omega), ?_⟩
  refine IC_go ttOk mixed (fn := Try.f45) (by kernel_rfl) (by rfl) (by rfl) (by kernel_rfl) (by rfl) (by first | rfl | simp [cln, clns, clnB, ints_cln, strs_cln, odc_cln, u8s_cln, bools_cln, rdB, vI, vH, vS, vG, vO, vOs, vB, vC, vZ]) (by first | rfl | simp [cln, clns, clnB, ints_cln, strs_cln, odc_cln, u8s_cln, bools_cln, rdB, vI, vH, vS, vG, vO, vOs, vB, vC, vZ]) ?_
  simp only [Try.f45, W1, W2, TTs, implies_true, ↓addR_none, ↓reduceIte, reduceCtorEq, Nat.reduceEqDiff, Nat.reduceAdd, Nat.reduceSub, Nat.reduceMul, Nat.reduceLT, Nat.reduceLeDiff, Nat.reduceBEq, List.reduceReplicate, Int.reduceNeg, Int.reduceToNat]
  (refine call_intro [0] (h) (by first | (simp only [W1, W2, TTs, implies_true, ↓addR_none, ↓reduceIte, reduceCtorEq, Nat.reduceEqDiff, Nat.reduceAdd, Nat.reduceSub, Nat.reduceMul, Nat.reduceLT, Nat.reduceLeDiff, Nat.reduceBEq, List.reduceReplicate, Int.reduceNeg, Int.reduceToNat]; done) | exact subs_refl _ | (simp only [W1, W2, TTs, implies_true, ↓addR_none, ↓reduceIte, reduceCtorEq, Nat.reduceEqDiff, Nat.reduceAdd, Nat.reduceSub, Nat.reduceMul, Nat.reduceLT, Nat.reduceLeDiff, Nat.reduceBEq, List.reduceReplicate, Int.reduceNeg, Int.reduceToNat]; omega)) (by first | (simp only [W1, W2, TTs, implies_true, ↓addR_none, ↓reduceIte, reduceCtorEq, Nat.reduceEqDiff, Nat.reduceAdd, Nat.reduceSub, Nat.reduceMul, Nat.reduceLT, Nat.reduceLeDiff, Nat.reduceBEq, List.reduceReplicate, Int.reduceNeg, Int.reduceToNat]; done) | rfl) (by decide) (by first | (simp only [W1, W2, TTs, implies_true, ↓addR_none, ↓reduceIte, reduceCtorEq, Nat.reduceEqDiff, Nat.reduceAdd, Nat.reduceSub, Nat.reduceMul, Nat.reduceLT, Nat.reduceLeDiff, Nat.reduceBEq, List.reduceReplicate, Int.reduceNeg, Int.reduceToNat]; done) | (simp; done) | (simp [get]; done)) (by simp) ?_; simp only [W1, W2, TTs, implies_true, ↓addR_none, ↓reduceIte, reduceCtorEq, Nat.reduceEqDiff, Nat.reduceAdd, Nat.reduceSub, Nat.reduceMul, Nat.reduceLT, Nat.reduceLeDiff, Nat.reduceBEq, List.reduceReplicate, Int.reduceNeg, Int.reduceToNat]; (repeat' first | ((with_reducible refine drawOK_of ?_); as_aux_lemma => kernel_rfl) | assumption | apply And.intro | intro); all_goals first | omega | (refine Eq.symm ?_; first | (simp_all [ints]; done) | (simp_all [ints]; omega) | (simp [ints]; omega)) | skip)
end Go.Proofs.Ytdacfgclclpooaa
