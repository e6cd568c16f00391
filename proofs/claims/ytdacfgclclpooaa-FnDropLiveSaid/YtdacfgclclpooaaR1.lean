/- From a contract of the generic layer to what a row asks: bytes as arguments, the memory below as it was. Conditions: none. -/
import Derived.Test.YtdacfgclclpooaaRows
import Derived.Test.YtdacfgclclpooaaCbX
import Derived.WalkKit
import Derived.ProofKit
import Derived.OpenShut
import Derived.JoinedCond
import Derived.Below
import Derived.Carry
namespace Go.Proofs.Ytdacfgclclpooaa
open Go Go.RowKit Go.ChangeShapes Go.WideShapes Go.ChangeAt
set_option linter.unusedVariables false
set_option linter.unusedSimpArgs false

def G0 : Nat → AV := fun _ => .rp false [] 0
/-- The context at a call's begin: nothing is the program's own. -/
def C0 (G : Nat → AV) (W : World) : Cx := ⟨fun _ => 0, get [], fun _ => False, G, W⟩
theorem C0_ok (G W t c) : (C0 G W).ok t c := by
  refine ⟨?_, fun _ h => h⟩
  rintro ⟨b, hb, _⟩
  simp [C0, get, Blk.live] at hb

theorem IC.calls {P : Program} {G : Nat → AV} {f : Nat} {args : List AV} {v : AV} (h : IC P G f args [] v []) {W : World} {vs : Array Value}
    (hG : ∀ i, VD (C0 G W).ok W (G i) (.pointer (some ⟨i, 0, none⟩))) (ha : VRs (C0 G W) args vs.toList) :
    Calls P f vs W fun e W' => ∃ r φ', e = .returned r ∧ VR ⟨φ', get [], fun _ => False, G, W'⟩ v r ∧ Below W.heap.size W W' := by
  refine (h.2.2.2 (C0 G W) vs rfl rfl ⟨fun b => ?_, fun b b' hb => ?_, fun c hc => hc.elim, hG⟩ ha).mono fun e W' h => ?_
  · simp [C0, get, BlkR]
  · simp [C0, get, Blk.live] at hb
  · obtain ⟨r, φ', he, hv, hh, hl⟩ := h
    refine ⟨r, φ', he, hv, hl.os, hl.tape, hl.output, hl.size, fun k hk => hl.keep k hk ?_⟩
    exact (C0_ok G W true k).1

theorem G0_ok (W : World) (i : Nat) : VD (C0 G0 W).ok W (G0 i) (.pointer (some ⟨i, 0, none⟩)) := ⟨i, 0, rfl, .inl rfl⟩

theorem IC.holds {P : Program} {f : Nat} {args : List AV} (h : IC P G0 f args [] (.b true) []) {W : World} {vs : Array Value} (ha : VRs (C0 G0 W) args vs.toList) :
    Calls P f vs W fun e W' => e = .returned (.bool true) ∧ Below W.heap.size W W' := by
  refine (h.calls (G0_ok W) ha).mono fun e W' h => ?_
  obtain ⟨r, φ', he, hv, hb⟩ := h
  obtain rfl : r = .bool true := hv
  exact ⟨he, hb⟩

def codeOf (zs : List Int) : List UInt8 := zs.map fun n => UInt8.ofNat n.toNat
theorem u8_back {n : Int} (h0 : 0 ≤ n) (h1 : n ≤ 255) : ((UInt8.ofNat n.toNat).toNat : Int) = n := by
  rw [UInt8.toNat_ofNat']; omega

section
variable {H : Type} {enc : TypeId × Value → H} {P : Program} {W : World}

/-- An argument of type []byte, told as the generic layer tells it. -/
theorem bytes_of {t e : TypeId} {fuel : Nat} {v : Value} {x : DataW H × List MemPlace} (ht : P.underlying t = some (.slice e)) (he : P.underlying e = some (.int .u8)) (hc : P.cellsOf e = 1)
    (h : DataW.trod enc P W 0 (fun _ => true) true fuel t [v] = some x) (G : Nat → AV) : ∃ code : List UInt8, VR (C0 G W) (.fz false code.length (u8s code)) v := by
  rcases open_ints ht he hc h with ⟨hcs, hx⟩ | ⟨a, len, cap, zs, hcs, _, hl, hm, hz, hx, hcell, hwz⟩
  · cases hcs
    exact ⟨[], none, 0, rfl, Nat.le_refl _, .inl rfl⟩
  · cases hcs
    simp only [if_true] at hz
    refine ⟨codeOf (zs.take len), ?_⟩
    have hn : (codeOf (zs.take len)).length = len := by simp [codeOf]; omega
    rw [hn]
    refine ⟨some a, cap, rfl, hl, ?_⟩
    by_cases h0 : len = 0
    · exact .inl h0
    right
    obtain ⟨b, off, rfl, hcl⟩ := ints_at hcell (by omega)
    have hlen : (u8s (codeOf (zs.take len))).length = len := by simp [u8s, hn]
    refine ⟨by omega, b, off, rfl, C0_ok _ _ _ _, (vdm_iff _ _ _).2 fun i y hy => ?_⟩
    have hi : i < len := by have := (List.getElem?_eq_some_iff.1 hy).1; omega
    refine ⟨_, hcl i (by omega), ?_⟩
    have hw := bounds_u8 (hwz (zs.getD i 0) (by rw [List.getD_eq_getElem?_getD, List.getElem?_eq_getElem (by omega)]; exact List.getElem_mem _))
    have e : y = .i .u8 (zs.getD i 0) := by
      have h1 : i < zs.length := by omega
      simp only [u8s, codeOf, List.getElem?_map, List.getElem?_take_of_lt hi, List.getElem?_eq_getElem h1, Option.map_some, Option.some.injEq] at hy
      rw [List.getD_eq_getElem?_getD, List.getElem?_eq_getElem h1, Option.getD_some] at hw ⊢
      rw [← hy, u8_back hw.1 hw.2]
    rw [e]
    exact rfl
end
end Go.Proofs.Ytdacfgclclpooaa
