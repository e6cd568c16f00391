/- The abstract walk of a whole body, and the contract that it comes to. Conditions: the table of types fits the program; its regions are drawn in mixed orders. -/
import Derived.Test.YtdacfgclclpooaaCbS
import Derived.Laws.Sem
namespace Go.Proofs.Ytdacfgclclpooaa
open Go Go.RowKit
set_option linter.unusedVariables false
set_option linter.unusedSimpArgs false
set_option linter.unusedSectionVars false

theorem HR.not_bo {C : Cx} (hH : HR C) {b : Nat} (hl : (C.g b).live = true) : ¬ C.Bo (C.φ b) := by
  have h0 := hH.blk b
  cases hg : C.g b with
  | hole => rw [hg] at hl; cases hl
  | dead => rw [hg] at hl; cases hl
  | cells sz cs => rw [hg] at h0 hl; exact (h0.resolve_left (fun z => by rw [z] at hl; cases hl)).2.1
  | map es => rw [hg] at h0; exact h0.2.1

/-- A context told anew over some of its blocks, the rest frozen. -/
theorem re_ok {C : Cx} (hH : HR C) {L : List Nat} (hnd : L.Nodup) : HR (C.re L false C.Bo) ∧ ∀ a v, VR C a v → VR (C.re L false C.Bo) (rs L false C.g a) v := by
  have hok : ∀ t' c, C.ok t' c → (C.re L false C.Bo).ok t' c := fun t' c ho => ⟨fun h => ho.1 (re_own_own h), ho.2⟩
  have hfz : ∀ b, (C.g b).live = true → b ∉ L → (C.re L false C.Bo).ok false (C.φ b) := fun b hl hb => ⟨fun h => by
    obtain ⟨k, b', hk, hl', he⟩ := re_own h
    have := hH.inj b' b hl' hl he
    subst this
    exact hb (List.mem_of_getElem? hk), fun _ => hH.not_bo hl⟩
  exact ⟨re_hr hH hok hfz hnd (fun b hb hl => hH.not_bo hl) hH.bo, re_vr hH hok hfz⟩

theorem re_le {C0 C : Cx} {m : Nat} (hC : ∀ b, m ≤ b → C0.g b = .hole) (hle : Le C0 C) {L : List Nat} (hL : L.take m = List.range m) : Le C0 (C.re L false C.Bo) where
  os := hle.os
  tape := hle.tape
  output := hle.output
  size := hle.size
  keep := hle.keep
  fresh c h := hle.fresh c (re_own_own h)
  bo := hle.bo
  gl := hle.gl
  ref b := by
    rcases Nat.lt_or_ge b m with hb | hb
    · have hk : L[b]? = some b := by
        have h1 : (L.take m)[b]? = some b := by rw [hL]; simp [hb]
        rw [List.getElem?_take, if_pos hb] at h1
        exact h1
      have h1 : (C.re L false C.Bo).g b = rsB L false C.g (C.g b) := get_rsG hk
      have h2 : (C.re L false C.Bo).φ b = C.φ b := by simp [Cx.re, List.getD_eq_getElem?_getD, hk]
      have h3 := hle.ref b
      cases hg : C0.g b with
      | hole => trivial
      | dead => rw [hg] at h3; simp only [BLe] at h3 ⊢; rw [h1, h3]; rfl
      | cells sz cs =>
        rw [hg] at h3
        rcases h3 with h3 | ⟨cs', h3, h4⟩
        · exact .inl (by rw [h1, h3]; rfl)
        · refine .inr ⟨_, by rw [h1, h3]; rfl, ?_⟩
          rcases h4 with h4 | ⟨h5, h6, h7⟩
          · exact .inl (by simpa using h4)
          · exact .inr ⟨by simpa using h5, by rw [h2, h6], h7⟩
      | map es =>
        rw [hg] at h3
        rcases h3 with h3 | ⟨es', h3, h4⟩
        · exact .inl (by rw [h1, h3]; rfl)
        · exact .inr ⟨_, by rw [h1, h3]; rfl, by rw [h2, h4]⟩
    · rw [hC b hb]; trivial

theorem eget_mem {e : Env} {t : Nat} : eget e t = .u ∨ (t, eget e t) ∈ e := by
  induction e with
  | nil => exact .inl rfl
  | cons p e ih =>
    obtain ⟨s, v⟩ := p
    simp only [eget]
    split
    · rename_i h; subst h; exact .inr (by simp)
    · exact ih.imp id (fun h => List.mem_cons_of_mem _ h)

theorem Sta.wk {m : Nat} {C0 : Cx} (hC : ∀ b, m ≤ b → C0.g b = .hole) {N : Nat} {e e1 : Env} {h h1 : Hp} {a : Act} {w : World} (hs : Sta C0 N e (get h) a w) (hw : Wk m e h e1 h1) : Sta C0 N e1 (get h1) a w := by
  obtain ⟨φ, hs⟩ := hs
  obtain ⟨L, hnd, htk, hml, hhole, rfl, henv⟩ := hw
  obtain ⟨r1, r2⟩ := re_ok hs.hr hnd
  have r3 := re_le hC hs.le htk
  refine ⟨fun k => φ (L.getD k 0), r1, r3, fun t => ?_, hs.size, hs.defers⟩
  rcases eget_mem (e := e1) (t := t) with h | h
  · rw [h]; trivial
  · have := henv _ h
    simp only at this
    rw [this]
    exact r2 _ _ (hs.env t)

theorem least (p : Nat → Prop) (h : ∃ n, p n) : ∃ n, p n ∧ ∀ m, p m → n ≤ m := by
  obtain ⟨n, hn⟩ := h
  induction n using Nat.strongRecOn with
  | _ n ih =>
    by_cases hx : ∃ m, m < n ∧ p m
    · obtain ⟨m, h1, h2⟩ := hx
      exact ih m h1 h2
    · exact ⟨n, hn, fun m hm => by
        rcases Nat.lt_or_ge m n with h | h
        · exact absurd ⟨m, h, hm⟩ hx
        · exact h⟩

section
variable {X : Xp} (hT : TOk X.P X.T) {C0 : Cx} (hG : C0.G = X.G) (hm : X.P.follows .mixedOrders = true) (hC : ∀ b, X.m ≤ b → C0.g b = .hole) {N : Nat}
include hT hG hm hC

theorem awp_ok : ∀ (c : Code) (e : Env) (h : Hp) (K : Kt) (a : Act) (w : World) (Q : Exit → Act → World → Prop), dstOk N c = true → awp X (strip c) e h K → Sta C0 N e (get h) a w →
    (∀ x a w, QK C0 N K x a w → Q x a w) → c.wp X.P Q a w
  | .skip, e, h, K, a, w, Q, hd, hx, hs, hQ => wp_skip (hQ .normal a w ⟨e, h, hs, hx⟩)
  | .label _, e, h, K, a, w, Q, hd, hx, hs, hQ => wp_label (hQ .normal a w ⟨e, h, hs, hx⟩)
  | .ret, e, h, K, a, w, Q, hd, hx, hs, hQ => wp_ret (hQ .ret a w ⟨e, h, hs, hx⟩)
  | .exit id, e, h, K, a, w, Q, hd, hx, hs, hQ => wp_exit (hQ (.exit id) a w ⟨e, h, hs, hx⟩)
  | .region id ops false, e, h, K, a, w, Q, hd, hx, hs, hQ => by
    refine wp_region_list (runS_ok hT hG Q K (fun e h a w hs hk => hQ .normal a w ⟨e, h, hs, hk⟩) ops.toList e h a w (fun o ho d hdd => ?_) hx hs)
    have := Array.all_eq_true_iff_forall_mem.1 hd o (by simpa using ho)
    simpa [hdd] using this
  | .region id ops true, e, h, K, a, w, Q, hd, hx, hs, hQ => by
    refine runD_ok hT hG hm id Q K (fun e h a w hs hk => hQ .normal a w ⟨e, h, hs, hk⟩) (fun o ho d hdd => ?_) hx hs
    have := Array.all_eq_true_iff_forall_mem.1 hd o ho
    simpa [hdd] using this
  | .seq x y, e, h, K, a, w, Q, hd, hx, hs, hQ => by
    have hd' : dstOk N x = true ∧ dstOk N y = true := by simpa [dstOk] using hd
    refine wp_seq (awp_ok x e h _ a w _ hd'.1 hx hs fun z a w hz => ?_)
    cases z with
    | normal => obtain ⟨e', h', hs', hk⟩ := hz; exact awp_ok y e' h' K a w Q hd'.2 hk hs' hQ
    | exit id => exact hQ _ a w hz
    | ret => exact hQ _ a w hz
    | goto l => exact hz.elim
    | panic ch => exact hz.elim
    | outgrown => exact hz.elim
  | .cond c x y, e, h, K, a, w, Q, hd, hx, hs, hQ => by
    have hd' : dstOk N x = true ∧ dstOk N y = true := by simpa [dstOk] using hd
    simp only [strip, awp] at hx
    split at hx
    · rename_i b hb
      obtain ⟨φ, hs0⟩ := id hs
      have hv := ev_ok hs0 c
      rw [hG, hb] at hv
      exact wp_cond_split (vr_b hv) (fun hb => awp_ok x e h K a w Q hd'.1 (hx.1 hb) hs hQ) (fun hb => awp_ok y e h K a w Q hd'.2 (hx.2 hb) hs hQ)
    · exact hx.elim
  | .block id x, e, h, K, a, w, Q, hd, hx, hs, hQ => by
    refine wp_block (awp_ok x e h _ a w _ (by simpa [dstOk] using hd) hx hs fun z a w hz => ?_)
    cases z with
    | normal => exact hQ _ a w hz
    | exit id' =>
      obtain ⟨e', h', hs', hk⟩ := hz
      simp only [Exit.inBlock]
      simp only [BlkK] at hk
      split
      · rename_i hid; rw [if_pos hid] at hk; exact hQ .normal a w ⟨e', h', hs', hk⟩
      · rename_i hid; rw [if_neg hid] at hk; exact hQ (.exit id') a w ⟨e', h', hs', hk⟩
    | ret => exact hQ _ a w hz
    | goto l => exact hz.elim
    | panic ch => exact hz.elim
    | outgrown => exact hz.elim
  | .loop x, e, h, K, a, w, Q, hd, hx, hs, hQ => by
    obtain ⟨ι, I, Inv, μ, i, hi, hwk, hround⟩ := hx
    let R : Act → World → Nat → Prop := fun a w n => ∃ i, Inv i ∧ Sta C0 N (I i).1 (get (I i).2) a w ∧ μ i = n
    let mu : Act → World → Nat := fun a w => open Classical in if hh : ∃ n, R a w n then Classical.choose (least (R a w) hh) else 0
    have hmu : ∀ a w, (∃ n, R a w n) → R a w (mu a w) ∧ ∀ n, R a w n → mu a w ≤ n := fun a w hh => by
      have := Classical.choose_spec (least (R a w) hh)
      simp only [mu, dif_pos hh]
      exact this
    refine wp_loop (fun a w => ∃ n, R a w n) mu ⟨μ i, i, hi, hs.wk hC hwk, rfl⟩ fun a w hh => ?_
    obtain ⟨⟨k, hk, hsk, hkn⟩, _⟩ := hmu a w hh
    refine awp_ok x (I k).1 (I k).2 _ a w _ (by simpa [dstOk] using hd) (hround k hk) hsk fun z a' w' hz => ?_
    cases z with
    | normal =>
      obtain ⟨e', h', hs', j, hj, hlt, hwk'⟩ := hz
      have hR : R a' w' (μ j) := ⟨j, hj, hs'.wk hC hwk', rfl⟩
      have := (hmu a' w' ⟨_, hR⟩).2 _ hR
      exact ⟨⟨_, hR⟩, by omega⟩
    | exit id => exact hQ _ a' w' hz
    | ret => exact hQ _ a' w' hz
    | goto l => exact hz.elim
    | panic ch => exact hz.elim
    | outgrown => exact hz.elim

end

/-! ### the contract -/

def resVal (T : TT) (e : Env) (h : Hp) : ResultVar → Option (Prop × AV)
  | .tmp t => some (True, eget e t)
  | .cell a t => match aLoad T (get h) t (eget e a) with
    | some (c, v, _) => some (c, v)
    | none => none

def resVals (T : TT) (e : Env) (h : Hp) : List ResultVar → Option (Prop × List AV)
  | [] => some (True, [])
  | r :: rs => match resVal T e h r, resVals T e h rs with
    | some (c, v), some (c', vs) => some (c ∧ c', v :: vs)
    | _, _ => none

def retV : List AV → AV
  | [v] => v
  | vs => .tup vs

/-- Behind the body: the results, told anew over the blocks that the caller keeps or gets. -/
def Fin (X : Xp) (rsl : List ResultVar) (R : AV → Hp → Prop) (e : Env) (h : Hp) : Prop :=
  match resVals X.T e h rsl with
  | some (c, vs) => c ∧ ∃ L : List Nat, L.Nodup ∧ L.take X.m = List.range X.m ∧ (∀ b ∈ L, get h b ≠ .hole) ∧ R (rs L false (get h) (retV vs)) (rsG L false (get h))
  | none => False

def Kr (X : Xp) (rsl : List ResultVar) (R : AV → Hp → Prop) : Kt
  | .norm, e, h => Fin X rsl R e h
  | .ret, e, h => Fin X rsl R e h
  | .exit _, _, _ => False

def argEnv : Nat → List AV → Env
  | _, [] => []
  | k, a :: as => (k, a) :: argEnv (k + 1) as

theorem eget_args : ∀ (as : List AV) (k t : Nat), eget (argEnv k as) t = if k ≤ t then as.getD (t - k) .u else .u
  | [], k, t => by simp [argEnv, eget]
  | a :: as, k, t => by
    rw [argEnv, eget, eget_args as (k + 1) t]
    by_cases h : t = k
    · subst h; simp
    · rw [if_neg h]
      by_cases h' : k ≤ t
      · rw [if_pos h', if_pos (by omega), show t - k = (t - (k + 1)) + 1 by omega]
        simp
      · rw [if_neg h', if_neg (by omega)]

def resSem (tmps : Array Value) : ResultVar → Sem Value
  | .tmp t => pure (tmps.getD t undef)
  | .cell a t => do loadVar t (← asAddr (tmps.getD a undef))

theorem results_run {P : Program} {w : World} (fn : Func) (tmps : Array Value) {us : List Value} (h : (fn.results.toList.mapM (resSem tmps)).run P w = .ok us w) :
    (results fn tmps).run P w = .ok (if h : us.toArray.size = 1 then us.toArray[0] else .tuple us.toArray) w := by
  have h1 : results fn tmps = fn.results.mapM (resSem tmps) >>= fun vs => pure (if h : vs.size = 1 then vs[0] else .tuple vs) := by
    unfold results
    refine congrArg (fun z => z >>= _) (congrArg (fun f => Array.mapM f fn.results) ?_)
    funext x; cases x <;> rfl
  rw [h1, Array.mapM_eq_mapM_toList]
  simp only [Sem.run_bind, Sem.run_map, h, Result.andThen_ok, Sem.run_pure]

theorem IC_of_awp {P : Program} {T : TT} {G : Nat → AV} (hT : TOk P T) (hm : P.follows .mixedOrders = true) {f : Nat} {fn : Func} (hf : P.funcs[f]? = some fn) (hn : (fn.name == "runtime.NumGoroutine") = false)
    {c : Code} (hb : fn.body = some c) (hd : dstOk fn.ntmps c = true) {args : List AV} (hsz : args.length ≤ fn.ntmps) {H : Hp} {v : AV} {H' : Hp} (hv : cln v = true) (hH' : H'.all clnB = true)
    {R : AV → Hp → Prop} (hR : ∀ v' H'', R v' H'' → H'' = H' ∧ ∀ C u, VR C v' u → VR C v u)
    (hw : awp ⟨P, T, G, H.length⟩ (strip c) (argEnv 0 args) H (Kr ⟨P, T, G, H.length⟩ fn.results.toList R)) : IC P G f args H v H' := by
  refine ⟨⟨fn, hf, hn, by rw [hb]; rfl⟩, hv, hH', fun C vs hG hg hr hargs => ?_⟩
  have hlen := ((vrs_iff _ _).1 hargs).1
  have hvsz : vs.size = args.length := by simpa using hlen.symm
  have hs0 : Sta C fn.ntmps (argEnv 0 args) (get H) { tmps := vs ++ Array.replicate (fn.ntmps - vs.size) undef, defers := [] } C.w := by
    refine ⟨C.φ, by rw [← hg]; exact hr, by rw [← hg]; exact Le.refl C, fun t => ?_, by simp; omega, rfl⟩
    rw [eget_args]
    simp only [Nat.zero_le, if_true, Nat.sub_zero]
    rcases Nat.lt_or_ge t args.length with h | h
    · obtain ⟨u, hu, hvu⟩ := ((vrs_iff _ _).1 hargs).2 t args[t] (by simp [h])
      have h1 : t < vs.size := by omega
      have h2 : vs[t] = u := by simpa [h1] using hu
      rw [List.getD_eq_getElem?_getD, List.getElem?_eq_getElem h]
      simp only [Option.getD_some]
      rw [Array.getD_eq_getD_getElem?, Array.getElem?_append_left h1]
      simp only [Array.getElem?_eq_getElem h1, Option.getD_some, h2]
      rw [← hg]; exact hvu
    · rw [List.getD_eq_getElem?_getD, List.getElem?_eq_none h]; trivial
  refine calls_of_wp hf hb (awp_ok (X := ⟨P, T, G, H.length⟩) hT hG hm (fun b hb => by rw [hg]; exact get_ge hb) c _ H _ _ _ _ hd hw hs0 fun x a w hx => ?_)
  have fin : (∃ e h, Sta C fn.ntmps e (get h) a w ∧ Fin ⟨P, T, G, H.length⟩ fn.results.toList R e h) → a.defers = [] ∧ ∃ v_1, (results fn a.tmps).run P w = .ok v_1 w ∧
      ∃ r φ', Ending.returned v_1 = .returned r ∧ VR ⟨φ', get H', C.Bo, C.G, w⟩ v r ∧ HR ⟨φ', get H', C.Bo, C.G, w⟩ ∧ Le C ⟨φ', get H', C.Bo, C.G, w⟩ := by
    rintro ⟨e, h, ⟨φ, hs⟩, hfin⟩
    unfold Fin at hfin
    split at hfin
    · rename_i cc vals hvals
      obtain ⟨hc, L, hnd, htk, hhole, hRR⟩ := hfin
      obtain ⟨rfl, hvv⟩ := hR _ _ hRR
      refine ⟨hs.defers, ?_⟩
      have hres : ∀ (l : List ResultVar) (cc : Prop) (vals : List AV), resVals T e h l = some (cc, vals) → cc → ∃ us : List Value, VRs ⟨φ, get h, C.Bo, C.G, w⟩ vals us ∧
          (l.mapM (resSem a.tmps)).run P w = .ok us w := by
        intro l
        induction l with
        | nil => intro cc vals h1 h2; cases h1; exact ⟨[], rfl, rfl⟩
        | cons r l ih =>
          intro cc vals h1 h2
          unfold resVals at h1
          split at h1
          · rename_i c1 v1 c2 vs2 e1 e2
            cases h1
            obtain ⟨us, hu1, hu2⟩ := ih _ _ e2 h2.2
            have hone : ∃ u, VR ⟨φ, get h, C.Bo, C.G, w⟩ v1 u ∧ (resSem a.tmps r).run P w = .ok u w := by
              cases r with
              | tmp t => cases e1; exact ⟨_, hs.env t, rfl⟩
              | cell x t =>
                unfold resVal at e1
                simp only at e1
                split at e1
                · rename_i c3 v3 up3 e3
                  cases e1
                  obtain ⟨_, ad, u, h5, h6, h7⟩ := aLoad_var (C := ⟨φ, get h, C.Bo, C.G, w⟩) hT hs.hr (hs.env x) e3 h2.1
                  refine ⟨u, h7, ?_⟩
                  simp only [resSem, h5, asAddr]
                  exact h6
                · cases e1
            obtain ⟨u, hu3, hu4⟩ := hone
            refine ⟨u :: us, ⟨u, us, rfl, hu3, hu1⟩, ?_⟩
            rw [List.mapM_cons]
            simp only [Sem.run_bind, hu4, hu2, Result.andThen_ok, Sem.run_pure]
          · cases h1
      obtain ⟨us, hu1, hu2⟩ := hres _ _ _ hvals hc
      obtain ⟨r1, r2⟩ := re_ok hs.hr hnd
      have r3 := re_le (C0 := C) (m := H.length) (fun b hb => by rw [hg]; exact get_ge hb) hs.le htk
      have hul := ((vrs_iff _ _).1 hu1).1
      have hone : ∃ u, (results fn a.tmps).run P w = .ok u w ∧ VR ⟨φ, get h, C.Bo, C.G, w⟩ (retV vals) u := by
        refine ⟨_, results_run fn a.tmps hu2, ?_⟩
        match vals, us, hu1 with
        | [], [], h => exact ⟨_, rfl, rfl⟩
        | [v], [u], h =>
          obtain ⟨_, _, h1, h2, h3⟩ := h
          cases h1
          exact h2
        | v1 :: v2 :: vs, u1 :: u2 :: us, h => exact ⟨_, rfl, by simpa using h⟩
        | [], u :: us, h => cases h
        | v :: vs, [], h => obtain ⟨_, _, h1, _⟩ := h; cases h1
        | [v], u1 :: u2 :: us, h => obtain ⟨_, _, h1, _, h3⟩ := h; cases h1; cases h3
        | v1 :: v2 :: vs, [u], h => obtain ⟨_, _, h1, _, h3⟩ := h; cases h1; obtain ⟨_, _, h4, _⟩ := h3; cases h4
      obtain ⟨u, hu3, hu4⟩ := hone
      exact ⟨u, hu3, u, _, rfl, hvv _ _ (r2 _ _ hu4), r1, r3⟩
    · exact hfin.elim
  cases x with
  | normal => exact fin hx
  | ret => exact fin hx
  | exit id => obtain ⟨_, _, _, hx⟩ := hx; exact hx.elim
  | goto l => exact hx.elim
  | panic ch => exact hx.elim
  | outgrown => exact hx.elim

end Go.Proofs.Ytdacfgclclpooaa
