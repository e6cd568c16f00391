/- The program's data, told in plain lists. Conditions: none; definitions. -/
import Derived.Test.YtdacfgclclpooaaCbV
namespace Go.Proofs.Ytdacfgclclpooaa
open Go Go.RowKit
set_option linter.unusedVariables false
set_option linter.unusedSimpArgs false

@[ext] structure HD where
  l : List Int
  r : List Int
  t : List Int
  deriving DecidableEq
@[ext] structure SD where
  h : HD
  f : List Int
  deriving DecidableEq
@[ext] structure GD where
  ph : Int
  c : List Int
  at' : Int
  deriving DecidableEq
@[ext] structure OD where
  k : Int
  a : Int
  b : Int
  deriving DecidableEq
@[ext] structure BD where
  s : SD
  g : GD
  ops : List OD
  at' : Int
  lost : Bool
  deriving DecidableEq
@[ext] structure CD where
  s : SD
  c : List Int
  deriving DecidableEq

@[ext] structure ZD where
  b : BD
  bar : Bool
  deriving DecidableEq

def odc (l : List OD) : List AV := l.flatMap fun o => [.i .i64 o.k, .i .i64 o.a, .i .i64 o.b]

def vI (t : Bool) (l : List Int) : AV := .fz t l.length (ints l)
def vH (t : Bool) (h : HD) : AV := .agg [vI t h.l, vI t h.r, vI t h.t]
def vS (t : Bool) (s : SD) : AV := .agg [vI t s.h.l, vI t s.h.r, vI t s.h.t, vI t s.f]
def vG (t : Bool) (g : GD) : AV := .agg [.i .i64 g.ph, vI t g.c, .i .i64 g.at']
def vO (o : OD) : AV := .agg [.i .i64 o.k, .i .i64 o.a, .i .i64 o.b]
def vOs (t : Bool) (l : List OD) : AV := .fz t l.length (odc l)
def vB (t : Bool) (b : BD) : AV := .agg [vI t b.s.h.l, vI t b.s.h.r, vI t b.s.h.t, vI t b.s.f, .i .i64 b.g.ph, vI t b.g.c, .i .i64 b.g.at', vOs t b.ops, .i .i64 b.at', .b b.lost]
def vZ (t : Bool) (z : ZD) : AV := .agg [vI t z.b.s.h.l, vI t z.b.s.h.r, vI t z.b.s.h.t, vI t z.b.s.f, .i .i64 z.b.g.ph, vI t z.b.g.c, .i .i64 z.b.g.at', vOs t z.b.ops, .i .i64 z.b.at', .b z.b.lost, .b z.bar]
def vC (t : Bool) (c : CD) : AV := .agg [vI t c.s.h.l, vI t c.s.h.r, vI t c.s.h.t, vI t c.s.f, vI t c.c]

theorem odc_scal (l) : (odc l).all AV.scal = true := by simp [odc, AV.scal]
theorem odc_rsm (L t g l) : (odc l).map (rs L t g) = odc l := by simp [odc, rs, List.map_flatMap]
theorem odc_dOnly (l) : (odc l).map dOnly = odc l := by simp [odc, dOnly, List.map_flatMap]
theorem odc_nil : odc [] = [] := rfl
theorem strs_nil : strs [] = [] := rfl
theorem bools_nil : bools [] = [] := rfl
theorem LIM_eq : LIM = 4294967296 := rfl
theorem three (n : Nat) : (n * 3 = 3 * n) = True := by simp; omega
theorem odc_uns (J l) : (odc l).map (un J) = odc l := by simp [odc, un, List.map_flatMap]
theorem bools_uns (J l) : (bools l).map (un J) = bools l := by simp only [bools, List.map_map]; congr 1
theorem odc_len (l) : (odc l).length = 3 * l.length := by
  induction l with
  | nil => rfl
  | cons o l ih => simp [odc] at ih ⊢; omega
theorem odc_cln (l) : clns (odc l) = true := by
  rw [clns_iff]; simp only [odc, List.mem_flatMap]; rintro a ⟨o, _, h⟩; simp at h; rcases h with rfl | rfl | rfl <;> rfl

theorem ids_data (l : List AV) (h : ∀ a ∈ l, idsOf a = []) : idsAll l = [] := by
  induction l with
  | nil => rfl
  | cons a l ih => rw [idsAll, h a (by simp), ih (fun b hb => h b (by simp [hb]))]; rfl
theorem ints_ids (l) : idsAll (ints l) = [] := ids_data _ (by simp [ints, idsOf])
theorem strs_ids (l) : idsAll (strs l) = [] := ids_data _ (by simp [strs, idsOf])
theorem bools_ids (l) : idsAll (bools l) = [] := ids_data _ (by simp only [bools, List.mem_map]; rintro a ⟨b, _, rfl⟩; rfl)
theorem u8s_ids (l) : idsAll (u8s l) = [] := ids_data _ (by simp [u8s, idsOf])
theorem odc_ids (l) : idsAll (odc l) = [] := ids_data _ (by simp only [odc, List.mem_flatMap]; rintro a ⟨o, _, h⟩; simp at h; rcases h with rfl | rfl | rfl <;> rfl)
theorem u8s_rsm (L t g l) : (u8s l).map (rs L t g) = u8s l := by simp only [u8s, List.map_map]; congr 1
theorem u8s_dOnly (l) : (u8s l).map dOnly = u8s l := by simp only [u8s, List.map_map]; congr 1
theorem u8s_cln (l) : clns (u8s l) = true := by rw [clns_iff]; simp only [u8s, List.mem_map]; rintro a ⟨b, _, rfl⟩; rfl
theorem u8s_uns (J l) : (u8s l).map (un J) = u8s l := by simp only [u8s, List.map_map]; congr 1
theorem u8s_take (l : List UInt8) (n : Nat) : (u8s l).take n = u8s (l.take n) := by simp [u8s, List.map_take]
theorem u8s_drop (l : List UInt8) (n : Nat) : (u8s l).drop n = u8s (l.drop n) := by simp [u8s, List.map_drop]
theorem u8s_nil : u8s [] = [] := rfl
theorem bools_rsm (L t g l) : (bools l).map (rs L t g) = bools l := by simp only [bools, List.map_map]; congr 1
theorem bools_dOnly (l) : (bools l).map dOnly = bools l := by simp only [bools, List.map_map]; congr 1
theorem bools_cln (l) : clns (bools l) = true := by rw [clns_iff]; simp only [bools, List.mem_map]; rintro a ⟨b, _, rfl⟩; rfl
theorem bools_scal (l) : (bools l).all AV.scal = true := by simp only [bools, List.all_map]; rw [List.all_eq_true]; intro a _; rfl
theorem bools_app1 (a : List Bool) (x : Bool) : bools a ++ [.b x] = bools (a ++ [x]) := by simp [bools]
theorem bools_set (l : List Bool) (n : Nat) (x : Bool) : (bools l).set n (.b x) = bools (l.set n x) := by simp [bools, List.map_set]
/-- The reference's random source. -/
def rdB (b : List UInt8) (p : Int) : Blk := .cells 1 [.fz false b.length (u8s b), .i .i64 p]

/-! ### the look at a drawn region, told in numbers' bits -/

def force {α : Type} (n : Nat) (k : Nat → α) : α := match n with | 0 => k 0 | m + 1 => k (m + 1)
theorem force_eq {α : Type} (n : Nat) (k : Nat → α) : force n k = k n := by cases n <;> rfl
def mask1 (n : Nat) (acc : List Nat) (es : List Edge) : Nat :=
  es.foldl (fun m e => bif Region.binds .any e then m ||| (1 <<< e.on ||| (bif Nat.ble (e.on + 1) n then acc.getD (n - 1 - e.on) 0 else 0)) else m) 0
def masksR : Nat → List Nat → List Oper → List Nat
  | _, acc, [] => acc
  | n, acc, o :: os => force (mask1 n acc o.after.toList) fun m => masksR (n + 1) (m :: acc) os
def drawFast (all : Array Oper) (l : List (List Nat × List Nat)) : Bool :=
  ((List.range all.size).all fun i => match all[i]? with | some o => o.after.toList.all fun e => !Region.binds .any e || decide (e.on < i) | none => false) &&
  (List.range all.size).all fun i => (List.range all.size).all fun j => i == j || ((masksR 0 [] all.toList).getD (all.size - 1 - i) 0).testBit j || ((masksR 0 [] all.toList).getD (all.size - 1 - j) 0).testBit i || apartOK all l i j

structure MInv (n : Nat) (acc : List Nat) (B : List (List Nat)) : Prop where
  la : acc.length = n
  lb : B.length = n
  m : ∀ i j, i < n → (acc.getD (n - 1 - i) 0).testBit j = true → j ∈ B.getD i []

theorem mask1_mem {n acc B} (h : MInv n acc B) (j : Nat) : ∀ (es : List Edge) (m : Nat),
    (es.foldl (fun m e => bif Region.binds .any e then m ||| (1 <<< e.on ||| (bif Nat.ble (e.on + 1) n then acc.getD (n - 1 - e.on) 0 else 0)) else m) m).testBit j = true →
    m.testBit j = true ∨ j ∈ es.flatMap fun e => if Region.binds .any e then e.on :: B.getD e.on [] else []
  | [], m, hm => Or.inl hm
  | e :: es, m, hm => by
    rw [List.foldl_cons] at hm
    rcases mask1_mem h j es _ hm with h1 | h1
    · cases hb : Region.binds .any e with
      | false => rw [hb] at h1; exact Or.inl h1
      | true =>
        rw [hb] at h1
        simp only [cond_true, Nat.testBit_or, Bool.or_eq_true] at h1
        rcases h1 with h1 | h1 | h1
        · exact Or.inl h1
        · refine Or.inr (by
            rw [List.flatMap_cons, List.mem_append]; left; rw [if_pos hb]
            rw [Nat.one_shiftLeft, Nat.testBit_two_pow, decide_eq_true_eq] at h1
            rw [h1]; exact List.mem_cons_self)
        · cases hn : Nat.ble (e.on + 1) n with
          | false => rw [hn] at h1; simp at h1
          | true =>
            rw [hn] at h1
            have := h.m e.on j (Nat.le_of_ble_eq_true hn) h1
            exact Or.inr (by rw [List.flatMap_cons, List.mem_append]; left; rw [if_pos hb]; exact List.mem_cons_of_mem _ this)
    · exact Or.inr (by rw [List.flatMap_cons, List.mem_append]; exact Or.inr h1)

theorem masks_ok : ∀ (os : List Oper) (n : Nat) (acc : List Nat) (B : List (List Nat)), MInv n acc B → MInv (n + os.length) (masksR n acc os) (waitsFrom B os)
  | [], n, acc, B, h => h
  | o :: os, n, acc, B, h => by
    rw [masksR, force_eq, waitsFrom, List.length_cons, show n + (os.length + 1) = (n + 1) + os.length by omega]
    refine masks_ok os (n + 1) _ _ ⟨by simp [h.la], by simp [h.lb], fun i j hi hm => ?_⟩
    rcases Nat.lt_or_ge i n with k | k
    · rw [List.getD_eq_getElem?_getD, List.getElem?_append_left (by rw [h.lb]; exact k), ← List.getD_eq_getElem?_getD]
      refine h.m i j k ?_
      rw [show n + 1 - 1 - i = (n - 1 - i) + 1 by omega] at hm
      simpa using hm
    · have e : i = n := by omega
      subst e
      rw [List.getD_eq_getElem?_getD, List.getElem?_append_right (by rw [h.lb]; exact Nat.le_refl _), h.lb, Nat.sub_self]
      rw [show i + 1 - 1 - i = 0 by omega] at hm
      simp only [List.getD_cons_zero] at hm
      rcases mask1_mem h j _ 0 hm with h1 | h1
      · simp at h1
      · simpa [waits1] using h1

theorem drawOK_of {a l} (h : drawFast a l = true) : drawOK a l = true := by
  unfold drawFast at h
  unfold drawOK
  rw [Bool.and_eq_true] at h ⊢
  refine ⟨h.1, ?_⟩
  have hM := masks_ok a.toList 0 [] [] ⟨rfl, rfl, fun i j k => by omega⟩
  rw [Nat.zero_add, Array.length_toList] at hM
  have h2 := h.2
  simp only [List.all_eq_true, List.mem_range, Bool.or_eq_true] at h2 ⊢
  intro i hi j hj
  rcases h2 i hi j hj with ((h3 | h3) | h3) | h3
  · exact Or.inl (Or.inl (Or.inl h3))
  · exact Or.inl (Or.inl (Or.inr (by simpa using hM.m i j hi h3)))
  · exact Or.inl (Or.inr (by simpa using hM.m j i hj h3))
  · exact Or.inr h3

/-! ### lists -/

/-- The place of a number in a list, or -1. -/
def atI (l : List Int) (n : Int) : Int := match l.findIdx? (· == n) with
  | some i => i
  | none => -1
theorem atI_miss {l : List Int} {n : Int} (h : n ∉ l) : atI l n = -1 := by
  unfold atI
  rw [List.findIdx?_eq_none_iff.2 (fun x hx => by simp; rintro rfl; exact h hx)]
theorem getD_lt {α} {l : List α} {i : Nat} (h : i < l.length) (d : α) : l.getD i d = l[i] := by simp [List.getD_eq_getElem?_getD, h]
theorem atI_hit {l : List Int} {n : Int} {i : Nat} (hi : i < l.length) (h : n ∉ l.take i) (he : l.getD i 0 = n) : atI l n = i := by
  unfold atI
  have : l.findIdx? (· == n) = some i := by
    rw [List.findIdx?_eq_some_iff_getElem]
    refine ⟨hi, by rw [getD_lt hi] at he; simpa using he, fun j hj => ?_⟩
    simp
    intro e
    exact h (by rw [List.mem_take_iff_getElem]; exact ⟨j, by omega, e⟩)
  rw [this]
theorem atI_neg {l : List Int} {n : Int} : atI l n < 0 ↔ n ∉ l := by
  unfold atI
  cases h : l.findIdx? (· == n) with
  | none =>
    have := List.findIdx?_eq_none_iff.1 h
    simp
    intro hn
    simpa using this n hn
  | some i =>
    obtain ⟨hi, he, _⟩ := List.findIdx?_eq_some_iff_getElem.1 h
    have he' : l[i] = n := by simpa using he
    have h1 : n ∈ l := by rw [← he']; exact List.getElem_mem hi
    simp only [h1, not_true_eq_false, iff_false]
    omega
theorem atI_nn {l : List Int} {n : Int} : 0 ≤ atI l n ↔ n ∈ l := by
  have := @atI_neg l n
  constructor
  · intro h; exact Classical.byContradiction fun hn => by have := this.2 hn; omega
  · intro h; exact Classical.byContradiction fun hn => by exact absurd h (this.1 (by omega))
theorem not_mem_take_succ {l : List Int} {n : Int} {i : Nat} (hi : i < l.length) (h : n ∉ l.take i) (he : l.getD i 0 ≠ n) : n ∉ l.take (i + 1) := by
  rw [getD_lt hi] at he
  rw [List.take_succ_eq_append_getElem hi, List.mem_append, List.mem_singleton]
  exact fun x => x.elim h (fun x => he x.symm)

theorem all_take_succ {α} {l : List α} {i : Nat} (h : i < l.length) (d : α) (p : α → Bool) : (l.take (i + 1)).all p = ((l.take i).all p && p (l.getD i d)) := by
  rw [List.take_succ_eq_append_getElem h, List.all_append, getD_lt h]; simp
theorem all_bad {α} {l : List α} {i : Nat} (h : i < l.length) (d : α) {p : α → Bool} (hp : p (l.getD i d) = false) : l.all p = false := by
  rw [List.all_eq_false]; exact ⟨l[i], List.getElem_mem h, by rw [← getD_lt h d, hp]; simp⟩
theorem all_take_all {α} {l : List α} {n : Nat} {p : α → Bool} (h : l.length ≤ n) : (l.take n).all p = l.all p := by rw [List.take_of_length_le h]

/-! ### pointers, validity -/

def ptOk (n : Nat) (p : Int) : Bool := decide (-1 ≤ p ∧ p < n)
def hvalid (h : HD) : Bool := decide (1 ≤ h.l.length ∧ h.l.length ≤ 8 ∧ h.r.length = h.l.length ∧ 1 ≤ h.t.length ∧ h.t.length ≤ 3) && (h.l.all (ptOk h.l.length) && h.r.all (ptOk h.l.length) && h.t.all (ptOk h.l.length))

end Go.Proofs.Ytdacfgclclpooaa
