/- Contracts of giving up a pointer, by the program and by the reference. Conditions: none. -/
import Derived.Test.YtdacfgclclpooaaI4
namespace Go.Proofs.Ytdacfgclclpooaa
open Go Go.RowKit
set_option linter.unusedVariables false
set_option linter.unusedSimpArgs false
attribute [local irreducible] LoopP CallP Plain Exec Gd runS awp KR Ret RR LoopK SeqC BlkK CondP sub
variable {G : Nat → AV}

def dfin (d : DW) : DW := drun 100 d
theorem drunR_i (d : DW) : ∀ k, (drunR d k).i = d.i + k
  | 0 => rfl
  | k + 1 => by rw [drunR, show (dstep (drunR d k)).i = (drunR d k).i + 1 by unfold dstep; simp only; split <;> (try split) <;> rfl, drunR_i d k]; omega
theorem dstep_f (d : DW) : (dstep d).f.length ≤ d.f.length + 1 := by unfold dstep; simp only; split <;> (try split) <;> simp
theorem dstep_a (d : DW) : (dstep d).a.length ≤ d.a.length + 2 := by unfold dstep; simp only; split <;> (try split) <;> simp
theorem drun_stop {d : DW} (h : ¬ d.i < d.a.length) (m : Nat) : drun m d = d := by cases m with | zero => rfl | succ m => rw [drun, if_neg h]

structure DInv (t : List Int) (n : Nat) (d : DW) (k : Nat) : Prop where
  g : DGood t n (drunR d k)
  p : pot (drunR d k) + k ≤ 90
  f : (drunR d k).f.length ≤ d.f.length + k
  a : (drunR d k).a.length ≤ d.a.length + 2 * k
  i : (drunR d k).i = k
  e : dfin d = drun (100 - k) (drunR d k)

theorem dinv_zero {t : List Int} {n : Nat} {d : DW} (g : DGood t n d) (hp : pot d ≤ 90) (hi : d.i = 0) : DInv t n d 0 := ⟨g, by simpa [drunR] using hp, by simp [drunR], by simp [drunR], hi, rfl⟩
theorem dinv_step {t : List Int} {n : Nat} {d : DW} {k : Nat} (v : DInv t n d k) (h : k < (drunR d k).a.length) : DInv t n d (k + 1) ∧ pot (drunR d (k + 1)) < pot (drunR d k) := by
  have hr : (drunR d k).i < (drunR d k).a.length := by rw [v.i]; exact h
  obtain ⟨h1, h2, h3⟩ := dgood_step v.g hr
  have hpk := v.p
  have hf := dstep_f (drunR d k)
  have ha := dstep_a (drunR d k)
  have vf := v.f
  have va := v.a
  refine ⟨⟨h1, ?_, ?_, ?_, ?_, ?_⟩, h2⟩
  · show pot (dstep (drunR d k)) + (k + 1) ≤ 90; omega
  · show (dstep (drunR d k)).f.length ≤ _; omega
  · show (dstep (drunR d k)).a.length ≤ _; omega
  · rw [drunR_i]; have := drunR_i d k; have := v.i; omega
  · rw [v.e]
    obtain ⟨m, hm⟩ : ∃ m, 100 - k = m + 1 := ⟨99 - k, by omega⟩
    rw [hm, drun, if_pos hr, show 100 - (k + 1) = m by omega]; rfl
theorem dinv_end {t : List Int} {n : Nat} {d : DW} {k : Nat} (v : DInv t n d k) (h : ¬ k < (drunR d k).a.length) : dfin d = drunR d k := by
  rw [v.e, drun_stop (by rw [v.i]; exact h)]

def dSt (d : DW) (t : List Int) : Hp := [.cells 1 [.sl 1 0 d.l.length d.l.length, .sl 2 0 d.r.length d.r.length, .sl 3 0 t.length t.length, .sl 4 0 d.f.length d.f.length, .sl 5 0 d.c.length d.c.length],
  .cells 1 (ints d.l), .cells 1 (ints d.r), .cells 1 (ints t), .cells 1 (ints d.f), .cells 1 (ints d.c)]

theorem dstep_none {d : DW} (h : d.a.getD d.i 0 = -1) : dstep d = { d with i := d.i + 1 } := by unfold dstep; simp only [h, if_true]
theorem dstep_dec {d : DW} (h : d.a.getD d.i 0 ≠ -1) (h2 : 0 < d.c.getD (d.a.getD d.i 0).toNat 0 - 1) : dstep d = { d with c := d.c.set (d.a.getD d.i 0).toNat (d.c.getD (d.a.getD d.i 0).toNat 0 - 1), i := d.i + 1 } := by
  unfold dstep; simp only; rw [if_neg h, if_pos h2]
theorem dstep_free {d : DW} (h : d.a.getD d.i 0 ≠ -1) (h2 : ¬ 0 < d.c.getD (d.a.getD d.i 0).toNat 0 - 1) : dstep d = ⟨d.l.set (d.a.getD d.i 0).toNat (-1), d.r.set (d.a.getD d.i 0).toNat (-1), d.f ++ [d.a.getD d.i 0], d.c.set (d.a.getD d.i 0).toNat (d.c.getD (d.a.getD d.i 0).toNat 0 - 1), d.a ++ [d.l.getD (d.a.getD d.i 0).toNat 0, d.r.getD (d.a.getD d.i 0).toNat 0], d.i + 1⟩ := by
  unfold dstep; simp only; rw [if_neg h, if_neg h2]

theorem ic_giveUp (l r t f c : List Int) (p : Int) (n : Nat) (hn : n ≤ 8) (hf : f.length ≤ 1000) (ht : t.length ≤ 1000) (g : DGood t n ⟨l, r, f, c, [p], 0⟩) :
    IC PP G 15 [.p 0 0 5, .i .i64 p] (dSt ⟨l, r, f, c, [p], 0⟩ t) (.tup []) (dSt (dfin ⟨l, r, f, c, [p], 0⟩) t) := by
  have hp0 : pot ⟨l, r, f, c, [p], 0⟩ ≤ 90 := by
    unfold pot
    have := List.countP_le_length (p := fun x : Int => decide (0 < x)) (l := c)
    have := g.lc
    simp at this ⊢; omega
  have v0 := dinv_zero g hp0 rfl
  generalize hd : (⟨l, r, f, c, [p], 0⟩ : DW) = d at *
  have e1 : l = d.l := by rw [← hd]
  have e2 : r = d.r := by rw [← hd]
  have e3 : f = d.f := by rw [← hd]
  have e4 : c = d.c := by rw [← hd]
  have e5 : [p] = d.a := by rw [← hd]
  have hdf : d.f.length ≤ 1000 := by rw [← e3]; exact hf
  have ha1 : d.a.length = 1 := by rw [← e5]; rfl
  unfold dSt
  refine IC_go ttOk mixed (fn := Try.f15) (by kernel_rfl) (by rfl) (by rfl) (by kernel_rfl) (by rfl) (by first | rfl | simp [cln, clns, clnB, ints_cln, strs_cln, odc_cln, u8s_cln, bools_cln, rdB, vI, vH, vS, vG, vO, vOs, vB, vC, vZ]) (by first | rfl | simp [cln, clns, clnB, ints_cln, strs_cln, odc_cln, u8s_cln, bools_cln, rdB, vI, vH, vS, vG, vO, vOs, vB, vC, vZ]) ?_
  simp only [Try.f15, W1, W2, TTs, implies_true, ↓addR_none, ↓reduceIte, reduceCtorEq, Nat.reduceEqDiff, Nat.reduceAdd, Nat.reduceSub, Nat.reduceMul, Nat.reduceLT, Nat.reduceLeDiff, Nat.reduceBEq, List.reduceReplicate, Int.reduceNeg, Int.reduceToNat]
  ((repeat' first | ((with_reducible refine drawOK_of ?_); as_aux_lemma => kernel_rfl) | assumption | apply And.intro | intro); try any_goals omega)
  refine loop_intro (ι := Nat) (fun k => ([(0, .p 0 0 5), (4, .p 6 0 3), (5, .sl 7 0 (drunR d k).a.length (drunR d k).a.length), (6, .i .i64 k)],
    dSt (drunR d k) t ++ [.cells 3 [.sl 1 0 (drunR d k).l.length (drunR d k).l.length, .sl 2 0 (drunR d k).r.length (drunR d k).r.length, .sl 3 0 t.length t.length], .cells 1 (ints (drunR d k).a)]))
    (fun k => DInv t n d k) (fun k => pot (drunR d k)) 0 v0 ?_ ?_
  · have e6 : d.a.length = 1 := by rw [← e5]; rfl
    have e7 : ints d.a = [.i .i64 p] := by rw [← e5]; rfl
    refine Wk_mk [0, 1, 2, 3, 4, 5, 6, 7] (by decide) (by rfl) (by simp) (by simp only [W1, W2, TTs, implies_true, ↓addR_none, ↓reduceIte, reduceCtorEq, Nat.reduceEqDiff, Nat.reduceAdd, Nat.reduceSub, Nat.reduceMul, Nat.reduceLT, Nat.reduceLeDiff, Nat.reduceBEq, List.reduceReplicate, Int.reduceNeg, Int.reduceToNat, drunR, dSt, e6, e7]) (by simp only [W1, W2, TTs, implies_true, ↓addR_none, ↓reduceIte, reduceCtorEq, Nat.reduceEqDiff, Nat.reduceAdd, Nat.reduceSub, Nat.reduceMul, Nat.reduceLT, Nat.reduceLeDiff, Nat.reduceBEq, List.reduceReplicate, Int.reduceNeg, Int.reduceToNat, drunR, dSt, e6, e7]) (by simp only [W1, W2, TTs, implies_true, ↓addR_none, ↓reduceIte, reduceCtorEq, Nat.reduceEqDiff, Nat.reduceAdd, Nat.reduceSub, Nat.reduceMul, Nat.reduceLT, Nat.reduceLeDiff, Nat.reduceBEq, List.reduceReplicate, Int.reduceNeg, Int.reduceToNat, drunR, dSt, e6, e7])
  intro k v
  have hs := dinv_step v
  have he := dinv_end v
  have hk := v.i
  have hpk := v.p
  have hll := v.g.ll
  have hlr := v.g.lr
  have hlc := v.g.lc
  have va := v.a
  have vf := v.f
  have hkey : k < (drunR d k).a.length → (drunR d k).a.getD k 0 ≠ -1 → 0 ≤ (drunR d k).a.getD k 0 ∧ (drunR d k).a.getD k 0 < n ∧ 1 ≤ (drunR d k).c.getD ((drunR d k).a.getD k 0).toNat 0 ∧ (drunR d k).c.getD ((drunR d k).a.getD k 0).toNat 0 ≤ 1000000 := fun h1 h2 => by
    obtain ⟨_, _, h3⟩ := dgood_step v.g (by rw [hk]; exact h1)
    rw [hk] at h3
    obtain ⟨h4, h5, h6⟩ := h3 h2
    refine ⟨h4, h5, h6, ?_⟩
    rw [v.g.cn _ (by omega)]
    have q1 := List.count_le_length (a := ((((drunR d k).a.getD k 0).toNat : Nat) : Int)) (l := (drunR d k).l)
    have q2 := List.count_le_length (a := ((((drunR d k).a.getD k 0).toNat : Nat) : Int)) (l := (drunR d k).r)
    have q3 := List.count_le_length (a := ((((drunR d k).a.getD k 0).toNat : Nat) : Int)) (l := t)
    have q4 := List.count_le_length (a := ((((drunR d k).a.getD k 0).toNat : Nat) : Int)) (l := (drunR d k).a.drop (drunR d k).i)
    rw [List.length_drop] at q4
    have q5 : d.a.length = 1 := by rw [← e5]; rfl
    omega
  have hs1 : drunR d (k + 1) = dstep (drunR d k) := rfl
  generalize hD : drunR d k = D at *
  unfold dSt
  simp only [W1, W2, TTs, implies_true, ↓addR_none, ↓reduceIte, reduceCtorEq, Nat.reduceEqDiff, Nat.reduceAdd, Nat.reduceSub, Nat.reduceMul, Nat.reduceLT, Nat.reduceLeDiff, Nat.reduceBEq, List.reduceReplicate, Int.reduceNeg, Int.reduceToNat, wrap_succ k (by omega)]
  ((repeat' first | ((with_reducible refine drawOK_of ?_); as_aux_lemma => kernel_rfl) | assumption | apply And.intro | intro); try any_goals omega)
  · rename_i k1 k2
    have h5 := dstep_none (d := D) (by rw [hk]; exact k2)
    exact ⟨k + 1, (hs k1).1, by rw [hD]; exact (hs k1).2, by refine Wk_mk [0, 1, 2, 3, 4, 5, 6, 7] (by decide) (by rfl) (by simp) (by simp only [W1, W2, TTs, implies_true, ↓addR_none, ↓reduceIte, reduceCtorEq, Nat.reduceEqDiff, Nat.reduceAdd, Nat.reduceSub, Nat.reduceMul, Nat.reduceLT, Nat.reduceLeDiff, Nat.reduceBEq, List.reduceReplicate, Int.reduceNeg, Int.reduceToNat, hs1, h5, dSt]) (by simp only [W1, W2, TTs, implies_true, ↓addR_none, ↓reduceIte, reduceCtorEq, Nat.reduceEqDiff, Nat.reduceAdd, Nat.reduceSub, Nat.reduceMul, Nat.reduceLT, Nat.reduceLeDiff, Nat.reduceBEq, List.reduceReplicate, Int.reduceNeg, Int.reduceToNat, hs1, h5, dSt]) (by simp only [W1, W2, TTs, implies_true, ↓addR_none, ↓reduceIte, reduceCtorEq, Nat.reduceEqDiff, Nat.reduceAdd, Nat.reduceSub, Nat.reduceMul, Nat.reduceLT, Nat.reduceLeDiff, Nat.reduceBEq, List.reduceReplicate, Int.reduceNeg, Int.reduceToNat, hs1, h5, dSt])⟩
  · rename_i k1 k2 k3
    obtain ⟨h1, h2, h3, h4⟩ := hkey k1 k2
    have hw : IntKind.i64.wrap (D.c.getD (D.a.getD k 0).toNat 0 - 1) = D.c.getD (D.a.getD k 0).toNat 0 - 1 := wrap_id (by omega) (by omega)
    rw [hw, getD_set_same (by omega)] at k3
    have h5 := dstep_dec (d := D) (by rw [hk]; exact k2) (by rw [hk]; exact k3)
    rw [hk] at h5
    exact ⟨k + 1, (hs k1).1, by rw [hD]; exact (hs k1).2, by refine Wk_mk [0, 1, 2, 3, 4, 5, 6, 7] (by decide) (by rfl) (by simp) (by simp only [W1, W2, TTs, implies_true, ↓addR_none, ↓reduceIte, reduceCtorEq, Nat.reduceEqDiff, Nat.reduceAdd, Nat.reduceSub, Nat.reduceMul, Nat.reduceLT, Nat.reduceLeDiff, Nat.reduceBEq, List.reduceReplicate, Int.reduceNeg, Int.reduceToNat, hs1, h5, dSt, hw]) (by simp only [W1, W2, TTs, implies_true, ↓addR_none, ↓reduceIte, reduceCtorEq, Nat.reduceEqDiff, Nat.reduceAdd, Nat.reduceSub, Nat.reduceMul, Nat.reduceLT, Nat.reduceLeDiff, Nat.reduceBEq, List.reduceReplicate, Int.reduceNeg, Int.reduceToNat, hs1, h5, dSt, hw]) (by simp only [W1, W2, TTs, implies_true, ↓addR_none, ↓reduceIte, reduceCtorEq, Nat.reduceEqDiff, Nat.reduceAdd, Nat.reduceSub, Nat.reduceMul, Nat.reduceLT, Nat.reduceLeDiff, Nat.reduceBEq, List.reduceReplicate, Int.reduceNeg, Int.reduceToNat, hs1, h5, dSt, hw])⟩
  · rename_i k1 k2 k3
    obtain ⟨h1, h2, h3, h4⟩ := hkey k1 k2
    have hw : IntKind.i64.wrap (D.c.getD (D.a.getD k 0).toNat 0 - 1) = D.c.getD (D.a.getD k 0).toNat 0 - 1 := wrap_id (by omega) (by omega)
    rw [hw, getD_set_same (by omega)] at k3
    have h5 := dstep_free (d := D) (by rw [hk]; exact k2) (by rw [hk]; exact k3)
    rw [hk] at h5
    have e6 : [AV.i .i64 (D.l.getD (D.a.getD k 0).toNat 0), AV.i .i64 (D.r.getD (D.a.getD k 0).toNat 0)] = ints [D.l.getD (D.a.getD k 0).toNat 0, D.r.getD (D.a.getD k 0).toNat 0] := rfl
    exact ⟨k + 1, (hs k1).1, by rw [hD]; exact (hs k1).2, by refine Wk_mk [0, 1, 2, 3, 4, 5, 6, 7] (by decide) (by rfl) (by simp) (by simp only [W1, W2, TTs, implies_true, ↓addR_none, ↓reduceIte, reduceCtorEq, Nat.reduceEqDiff, Nat.reduceAdd, Nat.reduceSub, Nat.reduceMul, Nat.reduceLT, Nat.reduceLeDiff, Nat.reduceBEq, List.reduceReplicate, Int.reduceNeg, Int.reduceToNat, hs1, h5, dSt, hw, e6, List.length_append]) (by simp only [W1, W2, TTs, implies_true, ↓addR_none, ↓reduceIte, reduceCtorEq, Nat.reduceEqDiff, Nat.reduceAdd, Nat.reduceSub, Nat.reduceMul, Nat.reduceLT, Nat.reduceLeDiff, Nat.reduceBEq, List.reduceReplicate, Int.reduceNeg, Int.reduceToNat, hs1, h5, dSt, hw, e6, List.length_append]) (by simp only [W1, W2, TTs, implies_true, ↓addR_none, ↓reduceIte, reduceCtorEq, Nat.reduceEqDiff, Nat.reduceAdd, Nat.reduceSub, Nat.reduceMul, Nat.reduceLT, Nat.reduceLeDiff, Nat.reduceBEq, List.reduceReplicate, Int.reduceNeg, Int.reduceToNat, hs1, h5, dSt, hw, e6, List.length_append])⟩
  · rename_i k1
    rw [he k1]
    refine Ret_mk [0, 1, 2, 3, 4, 5] (by decide) (by rfl) (by simp only [W1, W2, TTs, implies_true, ↓addR_none, ↓reduceIte, reduceCtorEq, Nat.reduceEqDiff, Nat.reduceAdd, Nat.reduceSub, Nat.reduceMul, Nat.reduceLT, Nat.reduceLeDiff, Nat.reduceBEq, List.reduceReplicate, Int.reduceNeg, Int.reduceToNat]) (by simp only [W1, W2, TTs, implies_true, ↓addR_none, ↓reduceIte, reduceCtorEq, Nat.reduceEqDiff, Nat.reduceAdd, Nat.reduceSub, Nat.reduceMul, Nat.reduceLT, Nat.reduceLeDiff, Nat.reduceBEq, List.reduceReplicate, Int.reduceNeg, Int.reduceToNat]) (by simp only [W1, W2, TTs, implies_true, ↓addR_none, ↓reduceIte, reduceCtorEq, Nat.reduceEqDiff, Nat.reduceAdd, Nat.reduceSub, Nat.reduceMul, Nat.reduceLT, Nat.reduceLeDiff, Nat.reduceBEq, List.reduceReplicate, Int.reduceNeg, Int.reduceToNat])
def dHd (d : DW) (t : List Int) : Hp := [.cells 1 (ints d.l), .cells 1 (ints d.r), .cells 1 (ints t), .cells 1 (ints d.f), .cells 1 (ints d.c), .cells 1 (ints d.a)]
def dAg (d : DW) (t : List Int) : AV := .agg [.sl 0 0 d.l.length d.l.length, .sl 1 0 d.r.length d.r.length, .sl 2 0 t.length t.length, .sl 3 0 d.f.length d.f.length, .sl 4 0 d.c.length d.c.length]

theorem ic_s_l9Down (l r t f c : List Int) (p : Int) (n : Nat) (hn : n ≤ 8) (hf : f.length ≤ 1000) (ht : t.length ≤ 1000) (g : DGood t n ⟨l, r, f, c, [p], 0⟩) :
    IC PP G 18 [.agg [.sl 0 0 l.length l.length, .sl 1 0 r.length r.length, .sl 2 0 t.length t.length, .sl 3 0 f.length f.length, .sl 4 0 c.length c.length], .sl 5 0 1 1] (dHd ⟨l, r, f, c, [p], 0⟩ t) (dAg (dfin ⟨l, r, f, c, [p], 0⟩) t) (dHd (dfin ⟨l, r, f, c, [p], 0⟩) t) := by
  have hp0 : pot ⟨l, r, f, c, [p], 0⟩ ≤ 90 := by
    unfold pot
    have := List.countP_le_length (p := fun x : Int => decide (0 < x)) (l := c)
    have := g.lc
    simp at this ⊢; omega
  have v0 := dinv_zero g hp0 rfl
  generalize hd : (⟨l, r, f, c, [p], 0⟩ : DW) = d at *
  have e1 : l = d.l := by rw [← hd]
  have e2 : r = d.r := by rw [← hd]
  have e3 : f = d.f := by rw [← hd]
  have e4 : c = d.c := by rw [← hd]
  have e5 : [p] = d.a := by rw [← hd]
  have hdf : d.f.length ≤ 1000 := by rw [← e3]; exact hf
  have ha1 : d.a.length = 1 := by rw [← e5]; rfl
  have e8 : ints [p] = ints d.a := by rw [← e5]
  have hg : dAg (dfin d) t = .agg [.sl 0 0 (dfin d).l.length (dfin d).l.length, .sl 1 0 (dfin d).r.length (dfin d).r.length, .sl 2 0 t.length t.length, .sl 3 0 (dfin d).f.length (dfin d).f.length, .sl 4 0 (dfin d).c.length (dfin d).c.length] := rfl
  subst e1 e2 e3 e4
  rw [hg]
  unfold dHd
  refine IC_go ttOk mixed (fn := Try.f18) (by kernel_rfl) (by rfl) (by rfl) (by kernel_rfl) (by rfl) (by first | rfl | simp [cln, clns, clnB, ints_cln, strs_cln, odc_cln, u8s_cln, bools_cln, rdB, vI, vH, vS, vG, vO, vOs, vB, vC, vZ]) (by first | rfl | simp [cln, clns, clnB, ints_cln, strs_cln, odc_cln, u8s_cln, bools_cln, rdB, vI, vH, vS, vG, vO, vOs, vB, vC, vZ]) ?_
  simp only [Try.f18, W1, W2, TTs, implies_true, ↓addR_none, ↓reduceIte, reduceCtorEq, Nat.reduceEqDiff, Nat.reduceAdd, Nat.reduceSub, Nat.reduceMul, Nat.reduceLT, Nat.reduceLeDiff, Nat.reduceBEq, List.reduceReplicate, Int.reduceNeg, Int.reduceToNat]
  ((repeat' first | ((with_reducible refine drawOK_of ?_); as_aux_lemma => kernel_rfl) | assumption | apply And.intro | intro); try any_goals omega)
  refine loop_intro (ι := Nat) (fun k => ([(1, .sl 5 0 (drunR d k).a.length (drunR d k).a.length), (2, .p 6 0 5), (4, .p 7 0 5), (5, .i .i64 k)],
    dHd (drunR d k) t ++ [.cells 1 [.sl 0 0 (drunR d k).l.length (drunR d k).l.length, .sl 1 0 (drunR d k).r.length (drunR d k).r.length, .sl 2 0 t.length t.length, .sl 3 0 (drunR d k).f.length (drunR d k).f.length, .sl 4 0 (drunR d k).c.length (drunR d k).c.length], .cells 5 [.nilS, .nilS, .nilS, .nilS, .nilS]]))
    (fun k => DInv t n d k) (fun k => pot (drunR d k)) 0 v0 ?_ ?_
  · have e6 : d.a.length = 1 := by rw [← e5]; rfl
    have e7 : ints d.a = [.i .i64 p] := by rw [← e5]; rfl
    refine Wk_mk [0, 1, 2, 3, 4, 5, 6, 7] (by decide) (by rfl) (by simp) (by simp only [W1, W2, TTs, implies_true, ↓addR_none, ↓reduceIte, reduceCtorEq, Nat.reduceEqDiff, Nat.reduceAdd, Nat.reduceSub, Nat.reduceMul, Nat.reduceLT, Nat.reduceLeDiff, Nat.reduceBEq, List.reduceReplicate, Int.reduceNeg, Int.reduceToNat, drunR, dHd, e6, e7]) (by simp only [W1, W2, TTs, implies_true, ↓addR_none, ↓reduceIte, reduceCtorEq, Nat.reduceEqDiff, Nat.reduceAdd, Nat.reduceSub, Nat.reduceMul, Nat.reduceLT, Nat.reduceLeDiff, Nat.reduceBEq, List.reduceReplicate, Int.reduceNeg, Int.reduceToNat, drunR, dHd, e6, e7]) (by simp only [W1, W2, TTs, implies_true, ↓addR_none, ↓reduceIte, reduceCtorEq, Nat.reduceEqDiff, Nat.reduceAdd, Nat.reduceSub, Nat.reduceMul, Nat.reduceLT, Nat.reduceLeDiff, Nat.reduceBEq, List.reduceReplicate, Int.reduceNeg, Int.reduceToNat, drunR, dHd, e6, e7])
  intro k v
  have hs := dinv_step v
  have he := dinv_end v
  have hk := v.i
  have hpk := v.p
  have hll := v.g.ll
  have hlr := v.g.lr
  have hlc := v.g.lc
  have va := v.a
  have vf := v.f
  have hkey : k < (drunR d k).a.length → (drunR d k).a.getD k 0 ≠ -1 → 0 ≤ (drunR d k).a.getD k 0 ∧ (drunR d k).a.getD k 0 < n ∧ 1 ≤ (drunR d k).c.getD ((drunR d k).a.getD k 0).toNat 0 ∧ (drunR d k).c.getD ((drunR d k).a.getD k 0).toNat 0 ≤ 1000000 := fun h1 h2 => by
    obtain ⟨_, _, h3⟩ := dgood_step v.g (by rw [hk]; exact h1)
    rw [hk] at h3
    obtain ⟨h4, h5, h6⟩ := h3 h2
    refine ⟨h4, h5, h6, ?_⟩
    rw [v.g.cn _ (by omega)]
    have q1 := List.count_le_length (a := ((((drunR d k).a.getD k 0).toNat : Nat) : Int)) (l := (drunR d k).l)
    have q2 := List.count_le_length (a := ((((drunR d k).a.getD k 0).toNat : Nat) : Int)) (l := (drunR d k).r)
    have q3 := List.count_le_length (a := ((((drunR d k).a.getD k 0).toNat : Nat) : Int)) (l := t)
    have q4 := List.count_le_length (a := ((((drunR d k).a.getD k 0).toNat : Nat) : Int)) (l := (drunR d k).a.drop (drunR d k).i)
    rw [List.length_drop] at q4
    have q5 : d.a.length = 1 := by rw [← e5]; rfl
    omega
  have hs1 : drunR d (k + 1) = dstep (drunR d k) := rfl
  generalize hD : drunR d k = D at *
  unfold dHd
  simp only [W1, W2, TTs, implies_true, ↓addR_none, ↓reduceIte, reduceCtorEq, Nat.reduceEqDiff, Nat.reduceAdd, Nat.reduceSub, Nat.reduceMul, Nat.reduceLT, Nat.reduceLeDiff, Nat.reduceBEq, List.reduceReplicate, Int.reduceNeg, Int.reduceToNat, wrap_succ k (by omega)]
  ((repeat' first | ((with_reducible refine drawOK_of ?_); as_aux_lemma => kernel_rfl) | assumption | apply And.intro | intro); try any_goals omega)
  · rename_i k1 k2
    have h5 := dstep_none (d := D) (by rw [hk]; exact k2)
    exact ⟨k + 1, (hs k1).1, by rw [hD]; exact (hs k1).2, by refine Wk_mk [0, 1, 2, 3, 4, 5, 6, 7] (by decide) (by rfl) (by simp) (by simp only [W1, W2, TTs, implies_true, ↓addR_none, ↓reduceIte, reduceCtorEq, Nat.reduceEqDiff, Nat.reduceAdd, Nat.reduceSub, Nat.reduceMul, Nat.reduceLT, Nat.reduceLeDiff, Nat.reduceBEq, List.reduceReplicate, Int.reduceNeg, Int.reduceToNat, hs1, h5, dHd]) (by simp only [W1, W2, TTs, implies_true, ↓addR_none, ↓reduceIte, reduceCtorEq, Nat.reduceEqDiff, Nat.reduceAdd, Nat.reduceSub, Nat.reduceMul, Nat.reduceLT, Nat.reduceLeDiff, Nat.reduceBEq, List.reduceReplicate, Int.reduceNeg, Int.reduceToNat, hs1, h5, dHd]) (by simp only [W1, W2, TTs, implies_true, ↓addR_none, ↓reduceIte, reduceCtorEq, Nat.reduceEqDiff, Nat.reduceAdd, Nat.reduceSub, Nat.reduceMul, Nat.reduceLT, Nat.reduceLeDiff, Nat.reduceBEq, List.reduceReplicate, Int.reduceNeg, Int.reduceToNat, hs1, h5, dHd])⟩
  · rename_i k1 k2 k3
    obtain ⟨h1, h2, h3, h4⟩ := hkey k1 k2
    have hw : IntKind.i64.wrap (D.c.getD (D.a.getD k 0).toNat 0 - 1) = D.c.getD (D.a.getD k 0).toNat 0 - 1 := wrap_id (by omega) (by omega)
    rw [hw, getD_set_same (by omega)] at k3
    have h5 := dstep_dec (d := D) (by rw [hk]; exact k2) (by rw [hk]; exact k3)
    rw [hk] at h5
    exact ⟨k + 1, (hs k1).1, by rw [hD]; exact (hs k1).2, by refine Wk_mk [0, 1, 2, 3, 4, 5, 6, 7] (by decide) (by rfl) (by simp) (by simp only [W1, W2, TTs, implies_true, ↓addR_none, ↓reduceIte, reduceCtorEq, Nat.reduceEqDiff, Nat.reduceAdd, Nat.reduceSub, Nat.reduceMul, Nat.reduceLT, Nat.reduceLeDiff, Nat.reduceBEq, List.reduceReplicate, Int.reduceNeg, Int.reduceToNat, hs1, h5, dHd, hw]) (by simp only [W1, W2, TTs, implies_true, ↓addR_none, ↓reduceIte, reduceCtorEq, Nat.reduceEqDiff, Nat.reduceAdd, Nat.reduceSub, Nat.reduceMul, Nat.reduceLT, Nat.reduceLeDiff, Nat.reduceBEq, List.reduceReplicate, Int.reduceNeg, Int.reduceToNat, hs1, h5, dHd, hw]) (by simp only [W1, W2, TTs, implies_true, ↓addR_none, ↓reduceIte, reduceCtorEq, Nat.reduceEqDiff, Nat.reduceAdd, Nat.reduceSub, Nat.reduceMul, Nat.reduceLT, Nat.reduceLeDiff, Nat.reduceBEq, List.reduceReplicate, Int.reduceNeg, Int.reduceToNat, hs1, h5, dHd, hw])⟩
  · rename_i k1 k2 k3
    obtain ⟨h1, h2, h3, h4⟩ := hkey k1 k2
    have hw : IntKind.i64.wrap (D.c.getD (D.a.getD k 0).toNat 0 - 1) = D.c.getD (D.a.getD k 0).toNat 0 - 1 := wrap_id (by omega) (by omega)
    rw [hw, getD_set_same (by omega)] at k3
    have h5 := dstep_free (d := D) (by rw [hk]; exact k2) (by rw [hk]; exact k3)
    rw [hk] at h5
    have e6 : [AV.i .i64 (D.l.getD (D.a.getD k 0).toNat 0), AV.i .i64 (D.r.getD (D.a.getD k 0).toNat 0)] = ints [D.l.getD (D.a.getD k 0).toNat 0, D.r.getD (D.a.getD k 0).toNat 0] := rfl
    exact ⟨k + 1, (hs k1).1, by rw [hD]; exact (hs k1).2, by refine Wk_mk [0, 1, 2, 3, 4, 5, 6, 7] (by decide) (by rfl) (by simp) (by simp only [W1, W2, TTs, implies_true, ↓addR_none, ↓reduceIte, reduceCtorEq, Nat.reduceEqDiff, Nat.reduceAdd, Nat.reduceSub, Nat.reduceMul, Nat.reduceLT, Nat.reduceLeDiff, Nat.reduceBEq, List.reduceReplicate, Int.reduceNeg, Int.reduceToNat, hs1, h5, dHd, hw, e6, List.length_append]) (by simp only [W1, W2, TTs, implies_true, ↓addR_none, ↓reduceIte, reduceCtorEq, Nat.reduceEqDiff, Nat.reduceAdd, Nat.reduceSub, Nat.reduceMul, Nat.reduceLT, Nat.reduceLeDiff, Nat.reduceBEq, List.reduceReplicate, Int.reduceNeg, Int.reduceToNat, hs1, h5, dHd, hw, e6, List.length_append]) (by simp only [W1, W2, TTs, implies_true, ↓addR_none, ↓reduceIte, reduceCtorEq, Nat.reduceEqDiff, Nat.reduceAdd, Nat.reduceSub, Nat.reduceMul, Nat.reduceLT, Nat.reduceLeDiff, Nat.reduceBEq, List.reduceReplicate, Int.reduceNeg, Int.reduceToNat, hs1, h5, dHd, hw, e6, List.length_append])⟩
  · rename_i k1
    rw [he k1]
    refine Ret_mk [0, 1, 2, 3, 4, 5] (by decide) (by rfl) (by simp only [W1, W2, TTs, implies_true, ↓addR_none, ↓reduceIte, reduceCtorEq, Nat.reduceEqDiff, Nat.reduceAdd, Nat.reduceSub, Nat.reduceMul, Nat.reduceLT, Nat.reduceLeDiff, Nat.reduceBEq, List.reduceReplicate, Int.reduceNeg, Int.reduceToNat]) (by simp only [W1, W2, TTs, implies_true, ↓addR_none, ↓reduceIte, reduceCtorEq, Nat.reduceEqDiff, Nat.reduceAdd, Nat.reduceSub, Nat.reduceMul, Nat.reduceLT, Nat.reduceLeDiff, Nat.reduceBEq, List.reduceReplicate, Int.reduceNeg, Int.reduceToNat]) (by simp only [W1, W2, TTs, implies_true, ↓addR_none, ↓reduceIte, reduceCtorEq, Nat.reduceEqDiff, Nat.reduceAdd, Nat.reduceSub, Nat.reduceMul, Nat.reduceLT, Nat.reduceLeDiff, Nat.reduceBEq, List.reduceReplicate, Int.reduceNeg, Int.reduceToNat])
end Go.Proofs.Ytdacfgclclpooaa
