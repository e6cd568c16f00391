/- Distances from roots: what the program's search computes. Conditions: none. -/
import Derived.Test.YtdacfgclclpooaaI6
namespace Go.Proofs.Ytdacfgclclpooaa
open Go Go.RowKit
set_option linter.unusedVariables false
set_option linter.unusedSimpArgs false

/-! ### rounds -/

def itn {S : Type} (go : S → Bool) (f : S → S) : Nat → S → S
  | 0, s => s
  | k + 1, s => if go s then itn go f k (f s) else s
def rep {S : Type} (f : S → S) (s : S) : Nat → S
  | 0 => s
  | k + 1 => f (rep f s k)
theorem itn_stop {S : Type} {go : S → Bool} {f : S → S} {s : S} (h : go s = false) (m : Nat) : itn go f m s = s := by cases m with | zero => rfl | succ m => rw [itn, h]; rfl
theorem itn_rep {S : Type} {go : S → Bool} {f : S → S} {s : S} : ∀ (k m : Nat), (∀ j, j < k → go (rep f s j) = true) → itn go f (k + m) s = itn go f m (rep f s k)
  | 0, m, _ => by rw [Nat.zero_add]; rfl
  | k + 1, m, h => by
    rw [show k + 1 + m = k + (m + 1) by omega, itn_rep k (m + 1) (fun j hj => h j (by omega)), itn, h k (by omega)]; rfl
theorem itn_end {S : Type} {go : S → Bool} {f : S → S} {s : S} {k M : Nat} (h : ∀ j, j < k → go (rep f s j) = true) (hk : k ≤ M) (he : go (rep f s k) = false) : itn go f M s = rep f s k := by
  obtain ⟨m, rfl⟩ : ∃ m, M = k + m := ⟨M - k, by omega⟩
  rw [itn_rep k m h, itn_stop he]

/-! ### the search -/

@[ext] structure QD where
  o : List Int
  q : List Int
  i : Nat

def meetD (d : QD) (p far : Int) : QD := if p ≠ -1 ∧ d.o.getD p.toNat 0 = 0 then ⟨d.o.set p.toNat far, d.q ++ [p], d.i⟩ else d
def qStart (h : HD) : QD := h.t.foldl (fun d p => meetD d p 1) ⟨List.replicate h.l.length 0, [], 0⟩
def qGo (d : QD) : Bool := decide (d.i < d.q.length)
def qHalf (h : HD) (d : QD) : QD := meetD d (h.l.getD (d.q.getD d.i 0).toNat 0) (d.o.getD (d.q.getD d.i 0).toNat 0 + 1)
def qStep (h : HD) (d : QD) : QD :=
  let e := qHalf h d
  let g := meetD e (h.r.getD (e.q.getD d.i 0).toNat 0) (e.o.getD (e.q.getD d.i 0).toNat 0 + 1)
  ⟨g.o, g.q, d.i + 1⟩
def qFin (h : HD) : QD := itn qGo (qStep h) 100 (qStart h)
def dists (h : HD) : List Int := (qFin h).o

structure QI (n B : Nat) (d : QD) : Prop where
  ol : d.o.length = n
  qr : ∀ p ∈ d.q, 0 ≤ p ∧ p < n
  nd : d.q.Nodup
  qo : ∀ j, j < n → (d.o.getD j 0 ≠ 0 ↔ (j : Int) ∈ d.q)
  bd : ∀ j, j < n → 0 ≤ d.o.getD j 0 ∧ d.o.getD j 0 ≤ B

theorem QI.len {n B : Nat} {d : QD} (g : QI n B d) : d.q.length ≤ n := pigeon n d.q g.qr g.nd
theorem QI.mono {n B B' : Nat} {d : QD} (g : QI n B d) (h : B ≤ B') : QI n B' d := ⟨g.ol, g.qr, g.nd, g.qo, fun j hj => by have := g.bd j hj; omega⟩

theorem meetD_i (d p far) : (meetD d p far).i = d.i := by unfold meetD; split <;> rfl
theorem meetD_ol (d p far) : (meetD d p far).o.length = d.o.length := by unfold meetD; split <;> simp
theorem meetD_q (d p far) {i : Nat} (h : i < d.q.length) : (meetD d p far).q.getD i 0 = d.q.getD i 0 ∧ d.q.length ≤ (meetD d p far).q.length := by
  unfold meetD
  split
  · simp [List.getD_eq_getElem?_getD, List.getElem?_append_left h]
  · exact ⟨rfl, Nat.le_refl _⟩
theorem meetD_ok {n B : Nat} {d : QD} (g : QI n B d) {p far : Int} (hp : ptOk n p = true) (hf : 1 ≤ far ∧ far ≤ B) : QI n B (meetD d p far) := by
  simp only [ptOk, decide_eq_true_eq] at hp
  unfold meetD
  split
  · rename_i h
    have hj0 : p.toNat < n := by omega
    have ho : p.toNat < d.o.length := by rw [g.ol]; exact hj0
    have hpn : ((p.toNat : Nat) : Int) = p := by omega
    refine ⟨by simpa using g.ol, fun q hq => ?_, ?_, fun j hj => ?_, fun j hj => ?_⟩
    · simp only [List.mem_append, List.mem_singleton] at hq
      rcases hq with hq | rfl
      · exact g.qr q hq
      · omega
    · rw [List.nodup_append]
      refine ⟨g.nd, by simp, fun a ha b hb => ?_⟩
      simp at hb; subst hb
      rintro rfl
      have := (g.qo a.toNat hj0).2 (by rw [hpn]; exact ha)
      exact this h.2
    · simp only
      by_cases ej : p.toNat = j
      · subst ej
        simp only [List.getD_eq_getElem?_getD, List.getElem?_set_self ho, Option.getD_some, List.mem_append, List.mem_singleton, hpn, or_true, iff_true]
        omega
      · have e1 : (d.o.set p.toNat far).getD j 0 = d.o.getD j 0 := by simp [List.getD_eq_getElem?_getD, List.getElem?_set_ne ej]
        rw [e1, g.qo j hj]
        simp only [List.mem_append, List.mem_singleton]
        constructor
        · exact .inl
        · rintro (h1 | h1)
          · exact h1
          · omega
    · simp only
      by_cases ej : p.toNat = j
      · subst ej
        simp only [List.getD_eq_getElem?_getD, List.getElem?_set_self ho, Option.getD_some]; omega
      · have e1 : (d.o.set p.toNat far).getD j 0 = d.o.getD j 0 := by simp [List.getD_eq_getElem?_getD, List.getElem?_set_ne ej]
        rw [e1]; exact g.bd j hj
  · exact g

theorem qStart_i (h : HD) : (qStart h).i = 0 := by
  unfold qStart
  have : ∀ (l : List Int) (d : QD), (l.foldl (fun d p => meetD d p 1) d).i = d.i := by
    intro l; induction l with
    | nil => intro d; rfl
    | cons p l ih => intro d; rw [List.foldl_cons, ih, meetD_i]
  rw [this]
def qAt (h : HD) (i : Nat) : QD := (h.t.take i).foldl (fun d p => meetD d p 1) ⟨List.replicate h.l.length 0, [], 0⟩
theorem qAt_ok {h : HD} (hv : hvalid h = true) : ∀ i, QI h.l.length 1 (qAt h i)
  | 0 => ⟨by simp [qAt], by simp [qAt], by simp [qAt], fun j hj => by simp [qAt, List.getD_eq_getElem?_getD, hj], fun j hj => by simp [qAt, List.getD_eq_getElem?_getD, hj]⟩
  | i + 1 => by
    by_cases hi : i < h.t.length
    · have e : qAt h (i + 1) = meetD (qAt h i) (h.t.getD i 0) 1 := by
        unfold qAt; rw [List.take_succ_eq_append_getElem hi, List.foldl_append, getD_lt hi]; rfl
      rw [e]
      exact meetD_ok (qAt_ok hv i) (List.all_eq_true.1 (hvalid_all hv).2.2 _ (by rw [getD_lt hi]; exact List.getElem_mem hi)) ⟨by omega, by omega⟩
    · have e : qAt h (i + 1) = qAt h i := by unfold qAt; rw [List.take_of_length_le (by omega), List.take_of_length_le (by omega)]
      rw [e]; exact qAt_ok hv i
theorem qAt_end {h : HD} {i : Nat} (hi : h.t.length ≤ i) : qAt h i = qStart h := by unfold qAt qStart; rw [List.take_of_length_le hi]

theorem pt_get {h : HD} (hv : hvalid h = true) {j : Nat} (hj : j < h.l.length) : ptOk h.l.length (h.l.getD j 0) = true ∧ ptOk h.l.length (h.r.getD j 0) = true := by
  obtain ⟨a1, a2, _⟩ := hvalid_all hv
  have hl := hvalid_len hv
  exact ⟨List.all_eq_true.1 a1 _ (by rw [getD_lt hj]; exact List.getElem_mem hj), List.all_eq_true.1 a2 _ (by rw [getD_lt (by omega)]; exact List.getElem_mem (by omega))⟩

theorem qHalf_ok {h : HD} (hv : hvalid h = true) {d : QD} {B : Nat} (g : QI h.l.length B d) (hi : d.i < d.q.length) : QI h.l.length (B + 1) (qHalf h d) ∧ (qHalf h d).q.getD d.i 0 = d.q.getD d.i 0 ∧ (qHalf h d).o.getD (d.q.getD d.i 0).toNat 0 = d.o.getD (d.q.getD d.i 0).toNat 0 ∧ d.q.length ≤ (qHalf h d).q.length := by
  have hm : d.q.getD d.i 0 ∈ d.q := by rw [getD_lt hi]; exact List.getElem_mem hi
  have hc := g.qr _ hm
  have hj : (d.q.getD d.i 0).toNat < h.l.length := by omega
  have hb := g.bd _ hj
  have hne := (g.qo _ hj).2 (by rw [show (((d.q.getD d.i 0).toNat : Nat) : Int) = d.q.getD d.i 0 by omega]; exact hm)
  obtain ⟨q1, q2⟩ := meetD_q d (h.l.getD (d.q.getD d.i 0).toNat 0) (d.o.getD (d.q.getD d.i 0).toNat 0 + 1) hi
  refine ⟨meetD_ok (g.mono (by omega)) (pt_get hv hj).1 (by omega), q1, ?_, q2⟩
  unfold qHalf meetD
  split
  · rename_i hh
    simp only
    by_cases e : (h.l.getD (d.q.getD d.i 0).toNat 0).toNat = (d.q.getD d.i 0).toNat
    · rw [e] at hh; exact absurd hh.2 hne
    · exact getD_set_ne e _
  · rfl

theorem qStep_ok {h : HD} (hv : hvalid h = true) {d : QD} {B : Nat} (g : QI h.l.length B d) (hi : d.i < d.q.length) : QI h.l.length (B + 1) (qStep h d) ∧ (qStep h d).i = d.i + 1 := by
  obtain ⟨g1, g2, g3, g4⟩ := qHalf_ok hv g hi
  have hm : d.q.getD d.i 0 ∈ d.q := by rw [getD_lt hi]; exact List.getElem_mem hi
  have hc := g.qr _ hm
  have hj : (d.q.getD d.i 0).toNat < h.l.length := by omega
  have hb := g.bd _ hj
  have := meetD_ok g1 (p := h.r.getD ((qHalf h d).q.getD d.i 0).toNat 0) (far := (qHalf h d).o.getD ((qHalf h d).q.getD d.i 0).toNat 0 + 1) (by rw [g2]; exact (pt_get hv hj).2) (by rw [g2, g3]; omega)
  exact ⟨⟨this.ol, this.qr, this.nd, this.qo, this.bd⟩, rfl⟩

/-- What holds after k rounds. -/
structure QV (h : HD) (k : Nat) : Prop where
  g : QI h.l.length (k + 1) (rep (qStep h) (qStart h) k)
  i : (rep (qStep h) (qStart h) k).i = k
  j : ∀ j, j < k → qGo (rep (qStep h) (qStart h) j) = true
  n : k ≤ h.l.length
theorem qv_zero {h : HD} (hv : hvalid h = true) : QV h 0 := ⟨by have := qAt_ok hv h.t.length; rw [qAt_end (Nat.le_refl _)] at this; exact this, qStart_i h, fun j hj => by omega, by omega⟩
theorem qv_step {h : HD} (hv : hvalid h = true) {k : Nat} (v : QV h k) (hk : k < (rep (qStep h) (qStart h) k).q.length) : QV h (k + 1) := by
  obtain ⟨g1, g2⟩ := qStep_ok hv v.g (by rw [v.i]; exact hk)
  have := v.g.len
  refine ⟨g1, by show (qStep h _).i = k + 1; rw [g2, v.i], fun j hj => ?_, by omega⟩
  by_cases e : j = k
  · subst e; unfold qGo; rw [v.i]; exact decide_eq_true hk
  · exact v.j j (by omega)
theorem qv_end {h : HD} {k : Nat} (v : QV h k) (hn : h.l.length ≤ 8) (hk : ¬ k < (rep (qStep h) (qStart h) k).q.length) : qFin h = rep (qStep h) (qStart h) k := by
  have := v.n
  exact itn_end v.j (by omega) (by unfold qGo; rw [v.i]; exact decide_eq_false hk)
end Go.Proofs.Ytdacfgclclpooaa
