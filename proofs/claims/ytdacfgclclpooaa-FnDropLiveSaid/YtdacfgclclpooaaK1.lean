/- Two heaps that agree over the cells that the roots reach are alike; what a dropped root leaves. Conditions: none. -/
import Derived.Test.YtdacfgclclpooaaJ4
import Derived.Test.YtdacfgclclpooaaI9
namespace Go.Proofs.Ytdacfgclclpooaa
open Go Go.RowKit
set_option linter.unusedVariables false
set_option linter.unusedSimpArgs false

structure Agree (Z : Int → Prop) (h g : HD) : Prop where
  n : h.l.length = g.l.length
  t : h.t = g.t
  zt : ∀ p ∈ h.t, p = -1 ∨ Z p
  lr : ∀ p, Z p → h.l.getD p.toNat 0 = g.l.getD p.toNat 0 ∧ h.r.getD p.toNat 0 = g.r.getD p.toNat 0
  z : ∀ p, Z p → (h.l.getD p.toNat 0 = -1 ∨ Z (h.l.getD p.toNat 0)) ∧ (h.r.getD p.toNat 0 = -1 ∨ Z (h.r.getD p.toNat 0))

section
variable {Z : Int → Prop} {h g : HD}

theorem meet_z {d : QD} {p far : Int} (hd : ∀ q ∈ d.q, Z q) (hp : p = -1 ∨ Z p) : ∀ q ∈ (meetD d p far).q, Z q := by
  unfold meetD
  split
  · rename_i k
    intro q hq
    simp only [List.mem_append, List.mem_singleton] at hq
    rcases hq with hq | rfl
    · exact hd q hq
    · rcases hp with hp | hp
      · exact absurd hp k.1
      · exact hp
  · exact hd

theorem start_z (a : Agree Z h g) : qStart h = qStart g ∧ ∀ q ∈ (qStart h).q, Z q := by
  refine ⟨by unfold qStart; rw [a.n, a.t], ?_⟩
  unfold qStart
  have : ∀ (l : List Int) (d : QD), (∀ q ∈ d.q, Z q) → (∀ p ∈ l, p = -1 ∨ Z p) → ∀ q ∈ (l.foldl (fun d p => meetD d p 1) d).q, Z q := by
    intro l
    induction l with
    | nil => intro d h1 _; exact h1
    | cons p l ih =>
      intro d h1 h2
      rw [List.foldl_cons]
      exact ih _ (meet_z h1 (h2 p (by simp))) (fun q hq => h2 q (by simp [hq]))
  exact this _ _ (by simp) a.zt

theorem step_z (a : Agree Z h g) {d : QD} (hd : ∀ q ∈ d.q, Z q) (hi : d.i < d.q.length) : qStep h d = qStep g d ∧ ∀ q ∈ (qStep h d).q, Z q := by
  have z0 := hd _ (getD_mem hi)
  have e1 : qHalf h d = qHalf g d := by unfold qHalf; rw [(a.lr _ z0).1]
  have e2 : (qHalf h d).q.getD d.i 0 = d.q.getD d.i 0 := (meetD_q d _ _ hi).1
  have e3 : qStep h d = qStep g d := by
    unfold qStep
    simp only
    rw [← e1, e2, (a.lr _ z0).2]
  refine ⟨e3, ?_⟩
  unfold qStep
  simp only
  refine meet_z (meet_z hd (a.z _ z0).1) ?_
  rw [e2]; exact (a.z _ z0).2

theorem fin_z (a : Agree Z h g) : ∀ (m : Nat) (d : QD), (∀ q ∈ d.q, Z q) → itn qGo (qStep h) m d = itn qGo (qStep g) m d ∧ ∀ q ∈ (itn qGo (qStep h) m d).q, Z q
  | 0, d, hd => ⟨rfl, hd⟩
  | m + 1, d, hd => by
    rw [itn, itn]
    cases hg : qGo d
    · exact ⟨rfl, hd⟩
    · obtain ⟨e, hz⟩ := step_z a hd (by simpa [qGo] using hg)
      rw [if_pos rfl, if_pos rfl, ← e]
      exact fin_z a m _ hz

theorem qFin_z (a : Agree Z h g) : qFin h = qFin g ∧ ∀ q ∈ (qFin h).q, Z q := by
  obtain ⟨e, hz⟩ := start_z a
  unfold qFin
  rw [← e]
  exact fin_z a 100 _ hz
theorem dists_z (a : Agree Z h g) : dists h = dists g := by unfold dists; rw [(qFin_z a).1]

theorem qFin_ok (hv : hvalid h = true) : ∃ B, QI h.l.length B (qFin h) := by
  have hl := hvalid_len hv
  have key : ∀ m k, h.l.length - k ≤ m → QV h k → ∃ k', QV h k' ∧ ¬ k' < (rep (qStep h) (qStart h) k').q.length := by
    intro m
    induction m with
    | zero => intro k hm v; exact ⟨k, v, by have := v.g.len; omega⟩
    | succ m ih =>
      intro k hm v
      by_cases h1 : k < (rep (qStep h) (qStart h) k).q.length
      · exact ih (k + 1) (by omega) (qv_step hv v h1)
      · exact ⟨k, v, h1⟩
  obtain ⟨k, v, h1⟩ := key _ 0 (Nat.le_refl _) (qv_zero hv)
  exact ⟨k + 1, by rw [qv_end v hl.2.1 h1]; exact v.g⟩

/-- What is reached lies in Z. -/
theorem reach_z (a : Agree Z h g) (hv : hvalid h = true) {j : Nat} (hj : j < h.l.length) (hr : (reachV h).getD j false = true) : Z j := by
  obtain ⟨B, q⟩ := qFin_ok hv
  have hd := dists_len hv
  unfold reachV at hr
  rw [if_pos hv] at hr
  unfold reach at hr
  have hj' : j < (dists h).length := by rw [hd]; exact hj
  rw [List.getD_eq_getElem?_getD, List.getElem?_map, List.getElem?_eq_getElem hj'] at hr
  simp only [Option.map_some, Option.getD_some, decide_eq_true_eq] at hr
  refine (qFin_z a).2 _ ((q.qo j hj).1 ?_)
  show (dists h).getD j 0 ≠ 0
  rw [getD_lt hj']; omega

theorem m1_z {s : List Int} {p : Int} (hs : ∀ q ∈ s, Z q) (hp : p = -1 ∨ Z p) : ∀ q ∈ m1 s p, Z q := by
  unfold m1
  split
  · rename_i k
    intro q hq
    simp only [List.mem_append, List.mem_singleton] at hq
    rcases hq with hq | rfl
    · exact hs q hq
    · rcases hp with hp | hp
      · exact absurd hp k.1
      · exact hp
  · exact hs
theorem metD_z : ∀ (ps s : List Int), (∀ q ∈ s, Z q) → (∀ p ∈ ps, p = -1 ∨ Z p) → ∀ q ∈ metD s ps, Z q
  | [], s, hs, _ => hs
  | p :: ps, s, hs, hp => by
    rw [metD, List.foldl_cons]
    exact metD_z ps _ (m1_z hs (hp p (by simp))) (fun q hq => hp q (by simp [hq]))
theorem ofin_z (a : Agree Z h g) : ∀ (m : Nat) (d : List Int × Nat), (∀ q ∈ d.1, Z q) → itn oGo (oStep h) m d = itn oGo (oStep g) m d ∧ ∀ q ∈ (itn oGo (oStep h) m d).1, Z q
  | 0, d, hd => ⟨rfl, hd⟩
  | m + 1, d, hd => by
    rw [itn, itn]
    cases hg : oGo d
    · exact ⟨rfl, hd⟩
    · have hi : d.2 < d.1.length := by simpa [oGo] using hg
      have z0 := hd _ (getD_mem hi)
      have e : oStep h d = oStep g d := by unfold oStep; rw [(a.lr _ z0).1, (a.lr _ z0).2]
      rw [if_pos rfl, if_pos rfl, ← e]
      refine ofin_z a m _ ?_
      unfold oStep
      refine metD_z _ _ hd ?_
      intro p hp
      simp only [List.mem_cons, List.not_mem_nil, or_false] at hp
      rcases hp with rfl | rfl
      · exact (a.z _ z0).1
      · exact (a.z _ z0).2
theorem order_z (a : Agree Z h g) : order h = order g ∧ ∀ q ∈ order h, Z q := by
  have e : oStart h = oStart g := by unfold oStart; rw [a.t]
  obtain ⟨h1, h2⟩ := ofin_z a 100 (oStart h) (metD_z _ _ (by simp) a.zt)
  unfold order
  rw [← e]
  exact ⟨by rw [h1], h2⟩
theorem copy_z (a : Agree Z h g) : copyH h = copyH g := by
  obtain ⟨e, hz⟩ := order_z a
  have k : ∀ (f f' : Int → Int), (∀ c ∈ order h, f c = f' c) → fillM f (order h) h.l.length (order h).length = fillM f' (order h) h.l.length (order h).length := by
    intro f f' hf
    unfold fillM
    rw [List.take_length, List.map_congr_left hf]
  unfold copyH copyL copyR
  rw [← e, ← a.n, ← a.t]
  rw [k (fun c => atI (order h) (h.l.getD c.toNat 0)) (fun c => atI (order h) (g.l.getD c.toNat 0)) (fun c hc => by simp only [(a.lr c (hz c hc)).1]),
    k (fun c => atI (order h) (h.r.getD c.toNat 0)) (fun c => atI (order h) (g.r.getD c.toNat 0)) (fun c hc => by simp only [(a.lr c (hz c hc)).2])]
theorem alike_z (a : Agree Z h g) (hv : hvalid h = true) (hw : hvalid g = true) : alike h g = true := by
  have e : live h = live g := by unfold live reachV; rw [if_pos hv, if_pos hw]; unfold reach; rw [dists_z a]
  unfold alike
  rw [e, copy_z a]
  simp
end

/-! ### what a dropped root leaves -/

structure DKeep (n : Nat) (l r : List Int) (d : DW) : Prop where
  k : ∀ j, j < n → 0 < d.c.getD j 0 → d.l.getD j 0 = l.getD j 0 ∧ d.r.getD j 0 = r.getD j 0
  f : ∀ p ∈ d.f, 0 ≤ p ∧ p < n ∧ d.c.getD p.toNat 0 ≤ 0

theorem dkeep_step {t : List Int} {n : Nat} {l r : List Int} {d : DW} (g : DGood t n d) (w : DKeep n l r d) (hi : d.i < d.a.length) : DKeep n l r (dstep d) := by
  have hp := (dgood_step g hi).2.2
  have lc := g.lc
  unfold dstep
  generalize d.a.getD d.i 0 = p at *
  simp only
  split
  · exact ⟨w.k, w.f⟩
  · rename_i hne
    obtain ⟨p0, p1, p2⟩ := hp hne
    have hpl : p.toNat < d.c.length := by omega
    have dec : ∀ j, (d.c.set p.toNat (d.c.getD p.toNat 0 - 1)).getD j 0 ≤ d.c.getD j 0 := fun j => by
      by_cases e : p.toNat = j
      · subst e; rw [getD_set_same hpl]; omega
      · rw [getD_set_ne e]; exact Int.le_refl _
    split
    · exact ⟨fun j hj h0 => w.k j hj (by have := dec j; simp only at h0; omega), fun q hq => by obtain ⟨a, b, c⟩ := w.f q hq; have := dec q.toNat; exact ⟨a, b, by simp only; omega⟩⟩
    · rename_i hz
      refine ⟨fun j hj h0 => ?_, fun q hq => ?_⟩
      · simp only at h0 ⊢
        have e : p.toNat ≠ j := by rintro rfl; rw [getD_set_same hpl] at h0; omega
        rw [getD_set_ne e, getD_set_ne e]
        exact w.k j hj (by have := dec j; omega)
      · simp only [List.mem_append, List.mem_singleton] at hq
        rcases hq with hq | rfl
        · obtain ⟨a, b, c⟩ := w.f q hq; have := dec q.toNat; exact ⟨a, b, by simp only; omega⟩
        · refine ⟨p0, p1, ?_⟩
          simp only
          rw [getD_set_same hpl]; omega

theorem dkeep_run {t : List Int} {n : Nat} {l r : List Int} {d : DW} (g : DGood t n d) (w : DKeep n l r d) : ∀ m d, DGood t n d → DKeep n l r d → DKeep n l r (drun m d)
  | 0, d, g, w => w
  | m + 1, d, g, w => by
    rw [drun]
    split
    · rename_i h
      exact dkeep_run g w m _ (dgood_step g h).1 (dkeep_step g w h)
    · exact w

/-- The final state of a dropped root. -/
theorem drop_end {c : CD} {r : Int} (h : rootedV c r = true) : DGood (c.s.h.t.set r.toNat (-1)) c.s.h.l.length (dfin (dropD c r)) ∧ (dfin (dropD c r)).a.drop (dfin (dropD c r)).i = [] ∧ DKeep c.s.h.l.length c.s.h.l c.s.h.r (dfin (dropD c r)) := by
  have g := dgood_drop h
  obtain ⟨hs, hc, h0, h1⟩ := rooted_h h
  have hl := svalid_len hs
  obtain ⟨g1, g2, _⟩ := dfin_good g (pot_one _ _ _ _ _ (by rw [hc, counts_len]; omega)) rfl
  refine ⟨g1, g2, ?_⟩
  have w : DKeep c.s.h.l.length c.s.h.l c.s.h.r (dropD c r) := by
    refine ⟨fun j hj _ => ⟨rfl, rfl⟩, fun p hp => ?_⟩
    have hf := List.all_eq_true.1 (svalid_h hs).2.2.1 p hp
    simp only [freeOk, Bool.and_eq_true, decide_eq_true_eq, Bool.not_eq_true', List.contains_eq_mem, decide_eq_false_iff_not] at hf
    refine ⟨hf.1.1, hf.1.2, ?_⟩
    have hj : p.toNat < c.s.h.l.length := by omega
    show c.c.getD p.toNat 0 ≤ 0
    rw [hc, counts_get (svalid_h hs).1 hj, show ((p.toNat : Nat) : Int) = p by omega]
    have : (allOf c.s.h).count p = 0 := by
      simp only [allOf, List.count_append]
      rw [List.count_eq_zero.2 hf.2.2.1.1, List.count_eq_zero.2 hf.2.2.1.2, List.count_eq_zero.2 hf.2.2.2]
    omega
  exact dkeep_run g w 100 _ g w

theorem drop_law {c : CD} {r : Int} (h : rootedV c r = true) :
    hvalid ⟨c.s.h.l, c.s.h.r, c.s.h.t.set r.toNat (-1)⟩ = true ∧ alike ⟨c.s.h.l, c.s.h.r, c.s.h.t.set r.toNat (-1)⟩ (dropRoot c r).s.h = true ∧ hvalid (dropRoot c r).s.h = true ∧
    ∀ j : Nat, j < c.s.h.l.length → (reachV ⟨c.s.h.l, c.s.h.r, c.s.h.t.set r.toNat (-1)⟩).getD j false = true → (j : Int) ∉ (dropRoot c r).s.f := by
  obtain ⟨g, e, w⟩ := drop_end h
  obtain ⟨hs, hc, h0, h1⟩ := rooted_h h
  have hl := svalid_len hs
  have hv := (svalid_h hs).1
  unfold dropRoot
  generalize dfin (dropD c r) = D at *
  simp only
  have hv1 : hvalid ⟨c.s.h.l, c.s.h.r, c.s.h.t.set r.toNat (-1)⟩ = true := by
    obtain ⟨a1, a2, _⟩ := hvalid_all hv
    simp only [hvalid, Bool.and_eq_true, decide_eq_true_eq, List.length_set]
    exact ⟨by omega, ⟨a1, a2⟩, List.all_eq_true.2 g.pt⟩
  have hv2 : hvalid ⟨D.l, D.r, c.s.h.t.set r.toNat (-1)⟩ = true := by
    have q1 := g.ll
    have q2 := g.lr
    simp only [hvalid, Bool.and_eq_true, decide_eq_true_eq, List.length_set, q1, q2, true_and]
    exact ⟨by omega, ⟨List.all_eq_true.2 g.pl, List.all_eq_true.2 g.pr⟩, List.all_eq_true.2 g.pt⟩
  have zz : ∀ p : Int, ptOk c.s.h.l.length p = true → (p ∈ D.l ∨ p ∈ D.r ∨ p ∈ c.s.h.t.set r.toNat (-1)) → p = -1 ∨ (0 ≤ p ∧ p < c.s.h.l.length ∧ 0 < D.c.getD p.toNat 0) := by
    intro p hp hm
    simp only [ptOk, decide_eq_true_eq] at hp
    by_cases k : p = -1
    · exact .inl k
    right
    refine ⟨by omega, by omega, ?_⟩
    have := g.cn p.toNat (by omega)
    rw [show ((p.toNat : Nat) : Int) = p by omega] at this
    rw [this]
    rcases hm with m | m | m <;> have := List.count_pos_iff.2 m <;> omega
  have A : Agree (fun p => 0 ≤ p ∧ p < c.s.h.l.length ∧ 0 < D.c.getD p.toNat 0) ⟨c.s.h.l, c.s.h.r, c.s.h.t.set r.toNat (-1)⟩ ⟨D.l, D.r, c.s.h.t.set r.toNat (-1)⟩ := by
    refine ⟨g.ll.symm, rfl, fun p hp => zz p (g.pt p hp) (.inr (.inr hp)), fun p hp => ?_, fun p hp => ?_⟩
    · obtain ⟨p0, p1, p2⟩ := hp
      obtain ⟨k1, k2⟩ := w.k p.toNat (by omega) p2
      exact ⟨k1.symm, k2.symm⟩
    · obtain ⟨p0, p1, p2⟩ := hp
      obtain ⟨k1, k2⟩ := w.k p.toNat (by omega) p2
      simp only
      rw [← k1, ← k2]
      have m1 : D.l.getD p.toNat 0 ∈ D.l := getD_mem (by rw [g.ll]; omega)
      have m2 : D.r.getD p.toNat 0 ∈ D.r := getD_mem (by rw [g.lr]; omega)
      exact ⟨zz _ (g.pl _ m1) (.inl m1), zz _ (g.pr _ m2) (.inr (.inl m2))⟩
  refine ⟨hv1, alike_z A hv1 hv2, hv2, fun j hj hr hf => ?_⟩
  have z := reach_z A hv1 hj hr
  have := (w.f j hf).2.2
  omega
end Go.Proofs.Ytdacfgclclpooaa
