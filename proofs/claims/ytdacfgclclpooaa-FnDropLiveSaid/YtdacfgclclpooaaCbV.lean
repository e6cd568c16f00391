/- Equations for walking with simp. Conditions: none. -/
import Derived.Test.YtdacfgclclpooaaCbW
namespace Go.Proofs.Ytdacfgclclpooaa
open Go Go.RowKit
set_option linter.unusedVariables false
set_option linter.unusedSimpArgs false
set_option linter.unusedSectionVars false

section
variable (X : Xp) (all : Option (Array Oper)) (os : List SOp) (K : Kt) (e : Env) (h : Hp) (acc : Acc) (d : Option Nat)
theorem Gd_t (o s x) : Gd X all os K d o s (.b x) true e h acc = ((x = true → Exec X all os K d o ((s, .b true) :: e) h acc) ∧ (x = false → runS X all os (eput ((s, .b false) :: e) d (.tup [])) h (addR acc [] []) K)) := rfl
theorem Gd_f (o s x) : Gd X all os K d o s (.b x) false e h acc = ((x = false → Exec X all os K d o ((s, .b false) :: e) h acc) ∧ (x = true → runS X all os (eput ((s, .b true) :: e) d (.tup [])) h (addR acc [] []) K)) := rfl
end

theorem get_zero (x : Blk) (h : Hp) : get (x :: h) 0 = x := rfl
theorem get_succ (x : Blk) (h : Hp) (n : Nat) : get (x :: h) (n + 1) = get h n := by simp [get]
theorem get_one (x y : Blk) (h : Hp) : get (x :: y :: h) 1 = y := rfl
theorem get_two (x y z : Blk) (h : Hp) : get (x :: y :: z :: h) 2 = z := rfl
theorem get_three (x y z u : Blk) (h : Hp) : get (x :: y :: z :: u :: h) 3 = u := rfl
theorem get_four (x y z u v : Blk) (h : Hp) : get (x :: y :: z :: u :: v :: h) 4 = v := rfl

/-- A list of numbers, of bytes, of texts as cells. -/
def ints (l : List Int) : List AV := l.map (.i .i64)
def u8s (l : List UInt8) : List AV := l.map fun b => .i .u8 b.toNat
def strs (l : List (List UInt8)) : List AV := l.map .s
def bools (l : List Bool) : List AV := l.map .b

theorem ints_len (l) : (ints l).length = l.length := by simp [ints]
theorem u8s_len (l) : (u8s l).length = l.length := by simp [u8s]
theorem strs_len (l) : (strs l).length = l.length := by simp [strs]
theorem bools_len (l) : (bools l).length = l.length := by simp [bools]
theorem ints_getD (l : List Int) (n : Nat) (z : Int) : (ints l).getD n (.i .i64 z) = .i .i64 (l.getD n z) := by
  simp only [ints, List.getD_eq_getElem?_getD, List.getElem?_map]; cases l[n]? <;> rfl
theorem u8s_getD (l : List UInt8) (n : Nat) : (u8s l).getD n (.i .u8 0) = .i .u8 (l.getD n 0).toNat := by
  simp only [u8s, List.getD_eq_getElem?_getD, List.getElem?_map]; cases l[n]? <;> rfl
theorem strs_getD (l : List (List UInt8)) (n : Nat) : (strs l).getD n (.s []) = .s (l.getD n []) := by
  simp only [strs, List.getD_eq_getElem?_getD, List.getElem?_map]; cases l[n]? <;> rfl
theorem bools_getD (l : List Bool) (n : Nat) : (bools l).getD n (.b false) = .b (l.getD n false) := by
  simp only [bools, List.getD_eq_getElem?_getD, List.getElem?_map]; cases l[n]? <;> rfl
theorem ints_nil : ints [] = [] := rfl
theorem ints_cons (x l) : ints (x :: l) = .i .i64 x :: ints l := rfl
theorem ints_app (a b) : ints a ++ ints b = ints (a ++ b) := by simp [ints]
theorem ints_app1 (a : List Int) (x : Int) : ints a ++ [.i .i64 x] = ints (a ++ [x]) := by simp [ints]
theorem ints_set (l : List Int) (n : Nat) (x : Int) : (ints l).set n (.i .i64 x) = ints (l.set n x) := by simp [ints, List.map_set]
theorem ints_take (l : List Int) (n : Nat) : (ints l).take n = ints (l.take n) := by simp [ints, List.map_take]
theorem ints_drop (l : List Int) (n : Nat) : (ints l).drop n = ints (l.drop n) := by simp [ints, List.map_drop]
theorem ints_one (x : Int) : [AV.i .i64 x] = ints [x] := rfl
theorem ints_scal (l) : (ints l).all AV.scal = true := by simp [ints, AV.scal]
theorem ints_dOnly (l) : (ints l).map dOnly = ints l := by simp [ints, dOnly]
theorem ints_rs (L t g l) : rss L t g (ints l) = ints l := by
  rw [rss_map]; simp [ints, rs]
theorem ints_rsm (L t g l) : (ints l).map (rs L t g) = ints l := by simp [ints, rs]
theorem ints_cln (l) : clns (ints l) = true := by rw [clns_iff]; simp [ints]; intro a _; rfl
theorem ints_uns (J l) : (ints l).map (un J) = ints l := by simp [ints, un]
theorem strs_app1 (a : List (List UInt8)) (x : List UInt8) : strs a ++ [.s x] = strs (a ++ [x]) := by simp [strs]
theorem strs_scal (l) : (strs l).all AV.scal = true := by simp [strs, AV.scal]
theorem strs_dOnly (l) : (strs l).map dOnly = strs l := by simp [strs, dOnly]
theorem strs_rsm (L t g l) : (strs l).map (rs L t g) = strs l := by simp [strs, rs]
theorem strs_cln (l) : clns (strs l) = true := by rw [clns_iff]; simp [strs]; intro a _; rfl
theorem strs_uns (J l) : (strs l).map (un J) = strs l := by simp [strs, un]

/-! ### the end of a body -/

def Ret (m : Nat) (h : Hp) (v0 v : AV) (H' : Hp) : Prop :=
  ∃ L : List Nat, L.Nodup ∧ L.take m = List.range m ∧ (∀ b ∈ L, get h b ≠ .hole) ∧ sub (rs L false (get h) v0) v ∧ rsG L false (get h) = H'
def RR (m : Nat) (r : Option (Prop × List AV)) (h : Hp) (v : AV) (H' : Hp) : Prop :=
  match r with
  | some (c, vs) => c ∧ Ret m h (retV vs) v H'
  | none => False
def KR (X : Xp) (rsl : List ResultVar) (v : AV) (H' : Hp) : Kt := Kr X rsl fun v' H'' => sub v' v ∧ H'' = H'
theorem RR_some (m c vs h v H') : RR m (some (c, vs)) h v H' = (c ∧ Ret m h (retV vs) v H') := rfl
theorem KR_ret (X : Xp) (rsl e h v H') : KR X rsl v H' .ret e h = RR X.m (resVals X.T e h rsl) h v H' := by
  show Fin X rsl (fun v' H'' => sub v' v ∧ H'' = H') e h = _
  unfold Fin RR
  generalize resVals X.T e h rsl = r
  cases r <;> rfl
theorem KR_norm (X : Xp) (rsl e h v H') : KR X rsl v H' .norm e h = RR X.m (resVals X.T e h rsl) h v H' := KR_ret X rsl e h v H'
theorem KR_exit (X : Xp) (rsl e h v H' id) : KR X rsl v H' (.exit id) e h = False := rfl

theorem Ret0 (h v0 v) : Ret 0 h v0 v [] = sub (rs [] false (get h) v0) v := by
  unfold Ret
  apply propext
  constructor
  · rintro ⟨L, h1, h2, h3, h4, h5⟩
    have : L = [] := by simpa [rsG] using h5
    subst this; exact h4
  · intro h; exact ⟨[], by simp, rfl, by simp, h, rfl⟩
theorem Ret1 (h v0 v x) : Ret 1 h v0 v [x] = (get h 0 ≠ .hole ∧ sub (rs [0] false (get h) v0) v ∧ rsB [0] false (get h) (get h 0) = x) := by
  unfold Ret
  apply propext
  constructor
  · rintro ⟨L, h1, h2, h3, h4, h5⟩
    match L, h2, h5 with
    | [], h2, _ => cases h2
    | [a], h2, h5 =>
      have : a = 0 := by simpa using h2
      subst this
      exact ⟨h3 0 (by simp), h4, by simpa [rsG] using h5⟩
    | a :: b :: L, _, h5 => simp [rsG] at h5
  · rintro ⟨h1, h2, h3⟩; exact ⟨[0], by simp, rfl, by simpa using h1, h2, by simp [rsG, h3]⟩
theorem Ret_mk (L : List Nat) {m h v0 v H'} (h1 : L.Nodup) (h2 : L.take m = List.range m) (h3 : ∀ b ∈ L, get h b ≠ .hole) (h4 : sub (rs L false (get h) v0) v) (h5 : rsG L false (get h) = H') : Ret m h v0 v H' := ⟨L, h1, h2, h3, h4, h5⟩

theorem IC_go {P : Program} {T : TT} {G : Nat → AV} (hT : TOk P T) (hm : P.follows .mixedOrders = true) {f : Nat} {fn : Func} (hf : P.funcs[f]? = some fn) (hn : (fn.name == "runtime.NumGoroutine") = false)
    {c : Code} (hb : fn.body = some c) (hd : dstOk fn.ntmps c = true) {args : List AV} (hsz : decide (args.length ≤ fn.ntmps) = true) {H : Hp} {v : AV} {H' : Hp} (hv : cln v = true) (hH' : H'.all clnB = true)
    (hw : awp ⟨P, T, G, H.length⟩ (strip c) (argEnv 0 args) H (KR ⟨P, T, G, H.length⟩ fn.results.toList v H')) : IC P G f args H v H' :=
  IC_of_awp hT hm hf hn hb hd (of_decide_eq_true hsz) hv hH' (fun v' H'' hR => ⟨hR.2, fun C u => sub_vr v' v u hR.1⟩) hw

/-! ### loops -/

def LoopK (m : Nat) {ι : Type} (I : ι → Env × Hp) (Inv : ι → Prop) (μ : ι → Nat) (i : ι) (K : Kt) : Kt := SeqK (fun e' h' => ∃ j, Inv j ∧ μ j < μ i ∧ Wk m e' h' (I j).1 (I j).2) K
theorem LoopK_norm {m : Nat} {ι : Type} {I : ι → Env × Hp} {Inv : ι → Prop} {μ : ι → Nat} {i : ι} {K : Kt} {e h} : LoopK m I Inv μ i K .norm e h = ∃ j, Inv j ∧ μ j < μ i ∧ Wk m e h (I j).1 (I j).2 := rfl
theorem LoopK_exit {m : Nat} {ι : Type} {I : ι → Env × Hp} {Inv : ι → Prop} {μ : ι → Nat} {i : ι} {K : Kt} {e h id} : LoopK m I Inv μ i K (.exit id) e h = K (.exit id) e h := rfl
theorem LoopK_ret {m : Nat} {ι : Type} {I : ι → Env × Hp} {Inv : ι → Prop} {μ : ι → Nat} {i : ι} {K : Kt} {e h} : LoopK m I Inv μ i K .ret e h = K .ret e h := rfl
theorem loop_intro {X : Xp} {a : SC} {e : Env} {h : Hp} {K : Kt} {ι : Type} (I : ι → Env × Hp) (Inv : ι → Prop) (μ : ι → Nat) (i0 : ι) (h0 : Inv i0) (hw : Wk X.m e h (I i0).1 (I i0).2)
    (hr : ∀ i, Inv i → awp X a (I i).1 (I i).2 (LoopK X.m I Inv μ i K)) : LoopP X a e h K := ⟨ι, I, Inv, μ, i0, h0, hw, hr⟩
theorem Wk_mk (L : List Nat) {m e h e1 h1} (k1 : L.Nodup) (k2 : L.take m = List.range m) (k3 : m ≤ L.length) (k4 : ∀ b ∈ L, get h b ≠ .hole) (k5 : rsG L false (get h) = h1) (k6 : ∀ p ∈ e1, rs L false (get h) (eget e p.1) = p.2) : Wk m e h e1 h1 :=
  ⟨L, k1, k2, k3, k4, k5.symm, fun p hp => (k6 p hp).symm⟩

theorem wrap_succ (i : Nat) (h : i ≤ 4611686018427387904) : IntKind.i64.wrap ((i : Int) + 1) = ((i + 1 : Nat) : Int) := by
  simp only [IntKind.wrap]; simp [IntKind.bits, IntKind.signed]; omega
theorem wrap_nat (i : Nat) (h : i ≤ 4611686018427387904) : IntKind.i64.wrap (i : Int) = (i : Int) := by
  simp only [IntKind.wrap]; simp [IntKind.bits, IntKind.signed]; omega
theorem wrap_id {i : Int} (h0 : -4611686018427387904 ≤ i) (h : i ≤ 4611686018427387904) : IntKind.i64.wrap i = i := by
  simp only [IntKind.wrap]; simp [IntKind.bits, IntKind.signed]; omega
theorem wrap_add1 {i : Int} (h0 : 0 ≤ i) (h1 : i ≤ 4611686018427387904) : IntKind.i64.wrap (i + 1) = i + 1 := by
  simp only [IntKind.wrap]; simp [IntKind.bits, IntKind.signed]; omega

end Go.Proofs.Ytdacfgclclpooaa
