/- Contracts of the reference's marking. Conditions: none. -/
import Derived.Test.YtdacfgclclpooaaC5
namespace Go.Proofs.Ytdacfgclclpooaa
open Go Go.RowKit
set_option linter.unusedVariables false
set_option linter.unusedSimpArgs false
attribute [local irreducible] LoopP CallP Plain Exec Gd runS awp KR Ret RR LoopK SeqC BlkK CondP sub
variable {G : Nat → AV}

def shade (c : List Int) (to : Int) : List Int := if to ≠ -1 ∧ c.getD to.toNat 0 = 0 then c.set to.toNat 1 else c
theorem shade_len (c to) : (shade c to).length = c.length := by unfold shade; split <;> simp
def ptIn (n : Nat) (to : Int) : Prop := to = -1 ∨ 0 ≤ to ∧ to < n

def swept (s : SD) (g : GD) : Int := if g.ph = 3 ∧ g.c.getD g.at'.toNat 0 = 0 ∧ g.at' ∉ s.f then g.at' else -1

def black (h : HD) (c : List Int) (i : Nat) : List Int := (shade (shade c (h.l.getD i 0)) (h.r.getD i 0)).set i 2
theorem black_len (h c i) : (black h c i).length = c.length := by simp [black, shade_len]

def fiI (p : Int → Bool) (l : List Int) : Int := match l.findIdx? p with
  | some i => i
  | none => -1
theorem fiI_miss {p : Int → Bool} {l : List Int} (h : l.all (fun x => !p x) = true) : fiI p l = -1 := by
  unfold fiI
  rw [List.findIdx?_eq_none_iff.2 (fun x hx => by have := List.all_eq_true.1 h x hx; simpa using this)]
theorem fiI_hit {p : Int → Bool} {l : List Int} {i : Nat} (hi : i < l.length) (h : (l.take i).all (fun x => !p x) = true) (he : p (l.getD i 0) = true) : fiI p l = i := by
  unfold fiI
  have : l.findIdx? p = some i := by
    rw [List.findIdx?_eq_some_iff_getElem]
    refine ⟨hi, by rwa [getD_lt hi] at he, fun j hj => ?_⟩
    have := List.all_eq_true.1 h l[j] (by rw [List.mem_take_iff_getElem]; exact ⟨j, by omega, rfl⟩)
    simpa using this
  rw [this]

def whiteAt (c : List Int) (to : Int) : Bool := decide (to ≠ -1 ∧ c.getD to.toNat 0 = 0)

theorem ptOk_in {l : List Int} {n i : Nat} (h : l.all (ptOk n) = true) (hi : i < l.length) : ptIn n (l.getD i 0) := by
  have := List.all_eq_true.1 h (l.getD i 0) (by rw [getD_lt hi]; exact List.getElem_mem hi)
  simp only [ptOk, decide_eq_true_eq] at this
  unfold ptIn; omega
theorem hvalid_all {h : HD} (hv : hvalid h = true) : h.l.all (ptOk h.l.length) = true ∧ h.r.all (ptOk h.l.length) = true ∧ h.t.all (ptOk h.l.length) = true := by
  simp only [hvalid, Bool.and_eq_true] at hv; exact ⟨hv.2.1.1, hv.2.1.2, hv.2.2⟩
theorem atI_lt {l : List Int} {n : Int} (h : 0 ≤ atI l n) : ∃ i : Nat, atI l n = i ∧ i < l.length := by
  unfold atI at h ⊢
  cases hf : l.findIdx? (· == n) with
  | none => rw [hf] at h; simp at h
  | some i => exact ⟨i, rfl, (List.findIdx?_eq_some_iff_getElem.1 hf).1⟩
theorem fiI_lt {p : Int → Bool} {l : List Int} (h : 0 ≤ fiI p l) : ∃ i : Nat, fiI p l = i ∧ i < l.length := by
  unfold fiI at h ⊢
  cases hf : l.findIdx? p with
  | none => rw [hf] at h; simp at h
  | some i => exact ⟨i, rfl, (List.findIdx?_eq_some_iff_getElem.1 hf).1⟩

end Go.Proofs.Ytdacfgclclpooaa
