/- Counting down: what becomes of a heap, its free cells and its counts when a pointer is given up. Conditions: none. -/
import Derived.Test.YtdacfgclclpooaaI3
namespace Go.Proofs.Ytdacfgclclpooaa
open Go Go.RowKit
set_option linter.unusedVariables false
set_option linter.unusedSimpArgs false

@[ext] structure DW where
  l : List Int
  r : List Int
  f : List Int
  c : List Int
  a : List Int
  i : Nat

def dstep (d : DW) : DW :=
  let p := d.a.getD d.i 0
  if p = -1 then { d with i := d.i + 1 }
  else
    let c' := d.c.set p.toNat (d.c.getD p.toNat 0 - 1)
    if 0 < d.c.getD p.toNat 0 - 1 then { d with c := c', i := d.i + 1 }
    else ⟨d.l.set p.toNat (-1), d.r.set p.toNat (-1), d.f ++ [p], c', d.a ++ [d.l.getD p.toNat 0, d.r.getD p.toNat 0], d.i + 1⟩

def drun : Nat → DW → DW
  | 0, d => d
  | k + 1, d => if d.i < d.a.length then drun k (dstep d) else d
def drunR (d : DW) : Nat → DW
  | 0 => d
  | k + 1 => dstep (drunR d k)

structure DGood (t : List Int) (n : Nat) (d : DW) : Prop where
  ll : d.l.length = n
  lr : d.r.length = n
  lc : d.c.length = n
  pl : ∀ p ∈ d.l, ptOk n p = true
  pr : ∀ p ∈ d.r, ptOk n p = true
  pt : ∀ p ∈ t, ptOk n p = true
  pa : ∀ p ∈ d.a, ptOk n p = true
  ia : d.i ≤ d.a.length
  cn : ∀ j, j < n → d.c.getD j 0 = ((d.l.count (j : Int) + d.r.count (j : Int) + t.count (j : Int) + (d.a.drop d.i).count (j : Int) : Nat) : Int)

def pot (d : DW) : Nat := (d.a.length - d.i) + 2 * d.c.countP (fun x => decide (0 < x))

theorem getD_set_same {l : List Int} {i : Nat} (h : i < l.length) (x : Int) : (l.set i x).getD i 0 = x := by simp [List.getD_eq_getElem?_getD, h]
theorem getD_set_ne {l : List Int} {i j : Nat} (h : i ≠ j) (x : Int) : (l.set i x).getD j 0 = l.getD j 0 := by simp [List.getD_eq_getElem?_getD, List.getElem?_set_ne h]
theorem getD_mem {l : List Int} {i : Nat} (h : i < l.length) : l.getD i 0 ∈ l := by rw [getD_lt h]; exact List.getElem_mem h
theorem mem_set {l : List Int} {i : Nat} {x y : Int} (h : y ∈ l.set i x) : y ∈ l ∨ y = x := List.mem_or_eq_of_mem_set h

theorem count_set_m {l : List Int} {i : Nat} (h : i < l.length) (j : Nat) : (l.set i (-1)).count (j : Int) + (if l.getD i 0 = j then 1 else 0) = l.count (j : Int) := by
  rw [List.count_set h, getD_lt h]
  have h1 : ((-1 : Int) == (j : Int)) = false := by simp
  rw [h1]
  by_cases e : l[i] = j
  · have h2 : 0 < l.count (j : Int) := List.count_pos_iff.2 (e ▸ List.getElem_mem h)
    have h3 : (l[i] == (j : Int)) = true := by simpa using e
    rw [h3, if_pos rfl, if_pos e, if_neg (by simp)]; omega
  · have h3 : (l[i] == (j : Int)) = false := by simpa using e
    rw [h3, if_neg e, if_neg (by simp)]; omega

theorem drop_hd {a : List Int} {i : Nat} (h : i < a.length) : a.drop i = a.getD i 0 :: a.drop (i + 1) := by
  rw [getD_lt h]; exact List.drop_eq_getElem_cons h

theorem dgood_step {t : List Int} {n : Nat} {d : DW} (g : DGood t n d) (hi : d.i < d.a.length) : DGood t n (dstep d) ∧ pot (dstep d) < pot d ∧ (d.a.getD d.i 0 ≠ -1 → 0 ≤ d.a.getD d.i 0 ∧ d.a.getD d.i 0 < n ∧ 1 ≤ d.c.getD (d.a.getD d.i 0).toNat 0) := by
  have hp := g.pa _ (getD_mem hi)
  simp only [ptOk, decide_eq_true_eq] at hp
  have hd := drop_hd hi
  generalize hpp : d.a.getD d.i 0 = p at *
  have key : p ≠ -1 → 1 ≤ d.c.getD p.toNat 0 := fun hne => by
    have hj : p.toNat < n := by omega
    have hc := g.cn _ hj
    have e : ((p.toNat : Nat) : Int) = p := by omega
    rw [hd, e, List.count_cons_self] at hc
    omega
  refine ⟨?_, ?_, fun hne => ⟨by omega, by omega, key hne⟩⟩
  · unfold dstep
    simp only [hpp]
    split
    · rename_i e
      refine ⟨g.ll, g.lr, g.lc, g.pl, g.pr, g.pt, g.pa, by simp; omega, fun j hj => ?_⟩
      have h0 := g.cn j hj
      rw [hd, List.count_cons] at h0
      have : (p == (j : Int)) = false := by simp; omega
      simpa [this] using h0
    · rename_i e
      have hj0 : p.toNat < n := by omega
      split
      · rename_i hpos
        refine ⟨g.ll, g.lr, by simpa using g.lc, g.pl, g.pr, g.pt, g.pa, by simp; omega, fun j hj => ?_⟩
        have h0 := g.cn j hj
        rw [hd, List.count_cons] at h0
        simp only
        by_cases ej : p.toNat = j
        · subst ej
          have : (p == ((p.toNat : Nat) : Int)) = true := by simp; omega
          rw [getD_set_same (by rw [g.lc]; exact hj)]
          simp only [this, if_true] at h0
          omega
        · have : (p == (j : Int)) = false := by simp; omega
          rw [getD_set_ne ej]
          simp only [this, Bool.false_eq_true, if_false] at h0
          omega
      · rename_i hpos
        refine ⟨by simpa using g.ll, by simpa using g.lr, by simpa using g.lc, fun q hq => ?_, fun q hq => ?_, g.pt, fun q hq => ?_, by simp; omega, fun j hj => ?_⟩
        · rcases mem_set hq with h | rfl
          · exact g.pl q h
          · simp [ptOk]; omega
        · rcases mem_set hq with h | rfl
          · exact g.pr q h
          · simp [ptOk]; omega
        · simp only [List.mem_append, List.mem_cons, List.not_mem_nil, or_false] at hq
          rcases hq with h | rfl | rfl
          · exact g.pa q h
          · exact g.pl _ (getD_mem (by rw [g.ll]; exact hj0))
          · exact g.pr _ (getD_mem (by rw [g.lr]; exact hj0))
        · have h0 := g.cn j hj
          have h1 := count_set_m (l := d.l) (by rw [g.ll]; exact hj0) j
          have h2 := count_set_m (l := d.r) (by rw [g.lr]; exact hj0) j
          rw [hd, List.count_cons] at h0
          simp only
          rw [List.drop_append_of_le_length (by omega), List.count_append, List.count_cons, List.count_cons, List.count_nil]
          have e1 : (d.l.getD p.toNat 0 == (j : Int)) = decide (d.l.getD p.toNat 0 = j) := rfl
          have e2 : (d.r.getD p.toNat 0 == (j : Int)) = decide (d.r.getD p.toNat 0 = j) := rfl
          rw [e1, e2]
          simp only [decide_eq_true_eq]
          by_cases ej : p.toNat = j
          · subst ej
            have : (p == ((p.toNat : Nat) : Int)) = true := by simp; omega
            rw [getD_set_same (by rw [g.lc]; exact hj)]
            simp only [this, if_true] at h0
            omega
          · have : (p == (j : Int)) = false := by simp; omega
            rw [getD_set_ne ej]
            simp only [this, Bool.false_eq_true, if_false] at h0
            omega
  · unfold dstep pot
    simp only [hpp]
    split
    · simp only; omega
    · rename_i e
      have hk := key e
      have hj0 : p.toNat < d.c.length := by rw [g.lc]; omega
      have hcs := List.countP_set (p := fun x : Int => decide (0 < x)) (l := d.c) (i := p.toNat) (a := d.c.getD p.toNat 0 - 1) hj0
      have hpos0 : 0 < d.c.countP (fun x => decide (0 < x)) := List.countP_pos_iff.2 ⟨d.c.getD p.toNat 0, getD_mem hj0, decide_eq_true (by omega)⟩
      have e0 : d.c[p.toNat] = d.c.getD p.toNat 0 := (getD_lt hj0 0).symm
      have e1 : decide (0 < d.c.getD p.toNat 0) = true := decide_eq_true (by omega)
      simp only [e0, e1, if_true] at hcs
      split
      · rename_i hpos
        have e2 : decide (0 < d.c.getD p.toNat 0 - 1) = true := decide_eq_true hpos
        simp only [e2, if_true] at hcs
        simp only
        omega
      · rename_i hpos
        have e2 : decide (0 < d.c.getD p.toNat 0 - 1) = false := decide_eq_false hpos
        simp only [e2, Bool.false_eq_true, if_false] at hcs
        simp only [List.length_append, List.length_cons, List.length_nil]
        omega
end Go.Proofs.Ytdacfgclclpooaa
