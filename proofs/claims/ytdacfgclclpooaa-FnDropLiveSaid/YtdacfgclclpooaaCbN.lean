/- Contracts, and what a call comes to: some blocks are lent, the rest is lent to be read. Conditions: none. -/
import Derived.Test.YtdacfgclclpooaaCbM
namespace Go.Proofs.Ytdacfgclclpooaa
open Go Go.RowKit
set_option linter.unusedVariables false
set_option linter.unusedSimpArgs false
set_option linter.unusedSectionVars false

mutual
/-- Nothing in it is lent. -/
def cln : AV → Bool
  | .fz t _ cs => !t && clns cs
  | .rp t cs _ => !t && clns cs
  | .agg cs => clns cs
  | .tup cs => clns cs
  | .fn _ cs => clns cs
  | .b _ => true
  | .i _ _ => true
  | .s _ => true
  | .sl .. => true
  | .p .. => true
  | .mp _ => true
  | .nilS => true
  | .nilP => true
  | .err _ => true
  | .u => true
def clns : List AV → Bool
  | [] => true
  | a :: as => cln a && clns as
end

theorem clns_iff : ∀ (as : List AV), clns as = true ↔ ∀ a ∈ as, cln a = true
  | [] => by simp [clns]
  | a :: as => by rw [clns, Bool.and_eq_true, clns_iff as]; simp

def clnB : Blk → Bool
  | .cells _ cs => clns cs
  | _ => true

mutual
theorem VD.cl {ok ok' : Bool → Nat → Prop} {w : World} (hok : ∀ c, ok false c → ok' false c) : ∀ (a : AV) (v : Value), cln a = true → VD ok w a v → VD ok' w a v
  | .b _, _, _, h => h
  | .i _ _, _, _, h => h
  | .s _, _, _, h => h
  | .fz t n cs, v, hc, h => by
    simp [cln] at hc
    obtain ⟨rfl, hc⟩ := hc
    obtain ⟨a, c, rfl, hn, h⟩ := h
    refine ⟨a, c, rfl, hn, h.imp id ?_⟩
    rintro ⟨hl, blk, off, rfl, ho, hm⟩
    exact ⟨hl, blk, off, rfl, hok _ ho, VDm.cl hok cs blk off hc hm⟩
  | .rp t cs off, v, hc, h => by
    simp [cln] at hc
    obtain ⟨rfl, hc⟩ := hc
    obtain ⟨blk, base, rfl, h⟩ := h
    refine ⟨blk, base, rfl, h.imp id ?_⟩
    rintro ⟨ho, hm⟩
    exact ⟨hok _ ho, VDm.cl hok cs blk base hc hm⟩
  | .sl .., _, _, h => h.elim
  | .p .., _, _, h => h.elim
  | .mp .., _, _, h => h.elim
  | .nilS, _, _, h => h
  | .nilP, _, _, h => h
  | .agg cs, v, hc, h => by
    obtain ⟨vs, rfl, h⟩ := h
    exact ⟨vs, rfl, VDs.cl hok cs _ (by simpa [cln] using hc) h⟩
  | .tup cs, v, hc, h => by
    obtain ⟨vs, rfl, h⟩ := h
    exact ⟨vs, rfl, VDs.cl hok cs _ (by simpa [cln] using hc) h⟩
  | .fn f cs, v, hc, h => by
    obtain ⟨vs, rfl, h⟩ := h
    exact ⟨vs, rfl, VDs.cl hok cs _ (by simpa [cln] using hc) h⟩
  | .err _, _, _, h => h
  | .u, _, _, h => trivial
theorem VDm.cl {ok ok' : Bool → Nat → Prop} {w : World} (hok : ∀ c, ok false c → ok' false c) : ∀ (cs : List AV) (blk off : Nat), clns cs = true → VDm ok w cs blk off → VDm ok' w cs blk off
  | [], _, _, _, _ => trivial
  | x :: xs, blk, off, hc, h => by
    simp [clns] at hc
    obtain ⟨⟨v, hv, hx⟩, h⟩ := h
    exact ⟨⟨v, hv, VD.cl hok x v hc.1 hx⟩, VDm.cl hok xs blk (off + 1) hc.2 h⟩
theorem VDs.cl {ok ok' : Bool → Nat → Prop} {w : World} (hok : ∀ c, ok false c → ok' false c) : ∀ (cs : List AV) (vs : List Value), clns cs = true → VDs ok w cs vs → VDs ok' w cs vs
  | [], _, _, h => h
  | x :: xs, vs, hc, h => by
    simp [clns] at hc
    obtain ⟨v, vs', rfl, hx, h⟩ := h
    exact ⟨v, vs', rfl, VD.cl hok x v hc.1 hx, VDs.cl hok xs vs' hc.2 h⟩
end

mutual
/-- The callee's blocks under the caller's numbers. -/
def un (J : List Nat) : AV → AV
  | .sl b off n cap => .sl (J.getD b 0) off n cap
  | .p b off len => .p (J.getD b 0) off len
  | .mp b => .mp (J.getD b 0)
  | .agg cs => .agg (uns J cs)
  | .tup cs => .tup (uns J cs)
  | .fn f cs => .fn f (uns J cs)
  | .b x => .b x
  | .i k n => .i k n
  | .s l => .s l
  | .fz t n cs => .fz t n cs
  | .rp t cs off => .rp t cs off
  | .nilS => .nilS
  | .nilP => .nilP
  | .err x => .err x
  | .u => .u
def uns (J : List Nat) : List AV → List AV
  | [] => []
  | a :: as => un J a :: uns J as
end

def unB (J : List Nat) : Blk → Blk
  | .cells sz cs => .cells sz (cs.map (un J))
  | x => x

/-- The heap behind the call. -/
def unG (J : List Nat) (H0 : Hp) (g : Nat → Blk) : Nat → Blk := fun b => match J.idxOf? b with
  | some k => unB J (get H0 k)
  | none => g b

/-- A contract: from these blocks and arguments to these, whatever lies beside them. -/
def IC (P : Program) (G : Nat → AV) (f : Nat) (args : List AV) (H : Hp) (v : AV) (H' : Hp) : Prop :=
  (∃ fn, P.funcs[f]? = some fn ∧ (fn.name == "runtime.NumGoroutine") = false ∧ fn.body.isNone = false) ∧ cln v = true ∧ H'.all clnB = true ∧
  ∀ (C : Cx) (vs : Array Value), C.G = G → C.g = get H → HR C → VRs C args vs.toList →
    Calls P f vs C.w fun e w' => ∃ r φ', e = .returned r ∧ VR ⟨φ', get H', C.Bo, C.G, w'⟩ v r ∧ HR ⟨φ', get H', C.Bo, C.G, w'⟩ ∧ Le C ⟨φ', get H', C.Bo, C.G, w'⟩

theorem idx_of {J : List Nat} (hn : J.Nodup) {k b : Nat} (h : J[k]? = some b) : J.idxOf? b = some k := by
  cases hi : J.idxOf? b with
  | none => exact absurd (List.mem_of_getElem? h) (idx_none hi)
  | some j => rw [nodup_at hn (idx_some hi) h]

def Cx.back (C : Cx) (J : List Nat) (H0 : Hp) (φ' : Nat → Nat) (w' : World) : Cx :=
  ⟨fun b => match J.idxOf? b with | some k => φ' k | none => C.φ b, unG J H0 C.g, C.Bo, C.G, w'⟩

theorem back_at {C : Cx} {J : List Nat} {H0 : Hp} {φ' : Nat → Nat} {w' : World} (hnd : J.Nodup) {k b : Nat} (h : J[k]? = some b) :
    (C.back J H0 φ' w').g b = unB J (get H0 k) ∧ (C.back J H0 φ' w').φ b = φ' k := by
  have := idx_of hnd h
  constructor
  · simp only [Cx.back, unG, this]
  · simp only [Cx.back, this]

theorem back_not {C : Cx} {J : List Nat} {H0 : Hp} {φ' : Nat → Nat} {w' : World} {b : Nat} (h : b ∉ J) :
    (C.back J H0 φ' w').g b = C.g b ∧ (C.back J H0 φ' w').φ b = C.φ b := by
  have : J.idxOf? b = none := by
    cases hi : J.idxOf? b with
    | none => rfl
    | some k => exact absurd (List.mem_of_getElem? (idx_some hi)) h
  constructor
  · simp only [Cx.back, unG, this]
  · simp only [Cx.back, this]

section
variable {C1 C2 : Cx} {J : List Nat} (hbd : ∀ k, C1.g k ≠ .hole → ∃ b, J[k]? = some b) (hg1 : ∀ (k b : Nat), J[k]? = some b → C2.g b = unB J (C1.g k) ∧ C2.φ b = C1.φ k)
  (hw : C2.w = C1.w) (hokc : ∀ c, C1.ok false c → C2.ok false c)
include hbd hg1 hw hokc
mutual
theorem un_vr : ∀ (a : AV) (v : Value), cln a = true → VR C1 a v → VR C2 (un J a) v
  | .sl b off n cap, v, _, hv => by
    obtain ⟨a, c, rfl, h1, h2, h3, h4⟩ := hv
    obtain ⟨b', hb'⟩ := hbd b h3
    obtain ⟨e1, e2⟩ := hg1 b b' hb'
    have hb2 : J.getD b 0 = b' := by simp [List.getD_eq_getElem?_getD, hb']
    rw [un, hb2]
    refine ⟨a, c, rfl, h1, h2, ?_, fun sz cs hg => ?_⟩
    · rw [e1]; intro hh; apply h3; cases hx : C1.g b <;> rw [hx] at hh <;> simp [unB] at hh
    · rw [e1] at hg
      cases hx : C1.g b with
      | cells sz' cs' =>
        rw [hx] at hg
        simp only [unB] at hg
        cases hg
        rw [e2, List.length_map, hw, ne_eq, List.map_eq_nil_iff]
        exact h4 sz cs' hx
      | hole => rw [hx] at hg; cases hg
      | dead => rw [hx] at hg; cases hg
      | map es => rw [hx] at hg; cases hg
  | .p b off len, v, _, hv => by
    obtain ⟨a, rfl, h3, h4⟩ := hv
    obtain ⟨b', hb'⟩ := hbd b h3
    obtain ⟨e1, e2⟩ := hg1 b b' hb'
    have hb2 : J.getD b 0 = b' := by simp [List.getD_eq_getElem?_getD, hb']
    rw [un, hb2]
    refine ⟨a, rfl, ?_, fun sz cs hg => ?_⟩
    · rw [e1]; intro hh; apply h3; cases hx : C1.g b <;> rw [hx] at hh <;> simp [unB] at hh
    · rw [e1] at hg
      cases hx : C1.g b with
      | cells sz' cs' =>
        rw [hx] at hg
        simp only [unB] at hg
        cases hg
        rw [e2, List.length_map]
        exact h4 sz cs' hx
      | hole => rw [hx] at hg; cases hg
      | dead => rw [hx] at hg; cases hg
      | map es => rw [hx] at hg; cases hg
  | .mp b, v, _, hv => by
    obtain ⟨r, rfl, h3, h4⟩ := hv
    obtain ⟨b', hb'⟩ := hbd b h3
    obtain ⟨e1, e2⟩ := hg1 b b' hb'
    have hb2 : J.getD b 0 = b' := by simp [List.getD_eq_getElem?_getD, hb']
    rw [un, hb2]
    refine ⟨r, rfl, ?_, fun es hg => ?_⟩
    · rw [e1]; intro hh; apply h3; cases hx : C1.g b <;> rw [hx] at hh <;> simp [unB] at hh
    · rw [e1] at hg
      cases hx : C1.g b with
      | map es' => rw [e2]; exact h4 es' hx
      | hole => rw [hx] at hg; cases hg
      | dead => rw [hx] at hg; cases hg
      | cells sz cs => rw [hx] at hg; cases hg
  | .agg cs, v, hc, hv => by obtain ⟨vs, rfl, hv⟩ := hv; exact ⟨vs, rfl, un_vrs cs _ (by simpa [cln] using hc) hv⟩
  | .tup cs, v, hc, hv => by obtain ⟨vs, rfl, hv⟩ := hv; exact ⟨vs, rfl, un_vrs cs _ (by simpa [cln] using hc) hv⟩
  | .fn f cs, v, hc, hv => by obtain ⟨vs, rfl, hv⟩ := hv; exact ⟨vs, rfl, un_vrs cs _ (by simpa [cln] using hc) hv⟩
  | .b _, _, hc, hv => by have h := VD.cl (w := C1.w) hokc _ _ hc hv; rw [← hw] at h; exact h
  | .i _ _, _, hc, hv => by have h := VD.cl (w := C1.w) hokc _ _ hc hv; rw [← hw] at h; exact h
  | .s _, _, hc, hv => by have h := VD.cl (w := C1.w) hokc _ _ hc hv; rw [← hw] at h; exact h
  | .fz .., _, hc, hv => by have h := VD.cl (w := C1.w) hokc _ _ hc hv; rw [← hw] at h; exact h
  | .rp .., _, hc, hv => by have h := VD.cl (w := C1.w) hokc _ _ hc hv; rw [← hw] at h; exact h
  | .nilS, _, hc, hv => by have h := VD.cl (w := C1.w) hokc _ _ hc hv; rw [← hw] at h; exact h
  | .nilP, _, hc, hv => by have h := VD.cl (w := C1.w) hokc _ _ hc hv; rw [← hw] at h; exact h
  | .err _, _, hc, hv => by have h := VD.cl (w := C1.w) hokc _ _ hc hv; rw [← hw] at h; exact h
  | .u, _, _, _ => trivial
theorem un_vrs : ∀ (as : List AV) (vs : List Value), clns as = true → VRs C1 as vs → VRs C2 (uns J as) vs
  | [], _, _, hv => hv
  | a :: as, vs, hc, hv => by
    simp [clns] at hc
    obtain ⟨v, vs', rfl, h1, h2⟩ := hv
    exact ⟨v, vs', rfl, un_vr a v hc.1 h1, un_vrs as vs' hc.2 h2⟩
end
end

section
variable {C : Cx} (hH : HR C) {L M : List Nat} (hnd : (L ++ M).Nodup) (hL : ∀ b ∈ L, C.g b ≠ .hole) (hM : ∀ b ∈ M, C.g b = .hole)

/-- What is lent to be read alone. -/
def Cx.lent (C : Cx) (L : List Nat) (c : Nat) : Prop := C.Bo c ∨ (C.own c ∧ ∀ b ∈ L, (C.g b).live = true → C.φ b ≠ c)

include hH hnd hL hM

theorem lend_hr : HR (C.re L true (C.lent L)) ∧ ∀ (as : List AV) (vs : List Value), VRs C as vs → VRs (C.re L true (C.lent L)) (rss L true C.g as) vs := by
  have hok : ∀ t' c, C.ok t' c → (C.re L true (C.lent L)).ok t' c := fun t' c ho => ⟨fun h => ho.1 (re_own_own h), fun ht h => h.elim (ho.2 ht) (fun h => ho.1 h.1)⟩
  have hfz : ∀ b, (C.g b).live = true → b ∉ L → (C.re L true (C.lent L)).ok true (C.φ b) := fun b hl hb => ⟨fun h => by
    obtain ⟨k, b', hk, hl', he⟩ := re_own h
    have := hH.inj b' b hl' hl he
    subst this
    exact hb (List.mem_of_getElem? hk), fun h => by cases h⟩
  refine ⟨re_hr hH hok hfz (List.nodup_append.1 hnd).1 (fun b hb hl h => ?_) (fun c h => ?_), fun as vs h => re_vrs hH hok hfz as vs h⟩
  · rcases h with h | h
    · have h0 := hH.blk b
      cases hg : C.g b with
      | hole => rw [hg] at hl; cases hl
      | dead => rw [hg] at hl; cases hl
      | cells sz cs => rw [hg] at h0 hl; exact (h0.resolve_left (fun z => by rw [z] at hl; cases hl)).2.1 h
      | map es => rw [hg] at h0; exact h0.2.1 h
    · exact h.2 b hb hl rfl
  · rcases h with h | h
    · exact hH.bo c h
    · exact hH.own_lt h.1

/-- Behind the call. -/
theorem back_ok {J : List Nat} (hJ : L ++ M = J) {H0 : Hp} (hlen : H0.length = J.length) (hcl : H0.all clnB = true) {φ' : Nat → Nat} {w' : World}
    (hH' : HR ⟨φ', get H0, C.lent L, C.G, w'⟩) (hle : Le (C.re L true (C.lent L)) ⟨φ', get H0, C.lent L, C.G, w'⟩) :
    Le C (C.back J H0 φ' w') ∧ HR (C.back J H0 φ' w') ∧ ∀ (a : AV) (v : Value), cln a = true → VR ⟨φ', get H0, C.lent L, C.G, w'⟩ a v → VR (C.back J H0 φ' w') (un J a) v := by
  have hnd' : J.Nodup := hJ ▸ hnd
  have hg1 : ∀ {k b : Nat}, J[k]? = some b → (C.back J H0 φ' w').g b = unB J (get H0 k) ∧ (C.back J H0 φ' w').φ b = φ' k := fun {k b} h => back_at hnd' h
  have hg2 : ∀ {b : Nat}, b ∉ J → (C.back J H0 φ' w').g b = C.g b ∧ (C.back J H0 φ' w').φ b = C.φ b := fun {b} h => back_not h
  have hlive : ∀ x : Blk, (unB J x).live = x.live := fun x => by
    cases x with
    | cells sz cs => cases cs <;> rfl
    | _ => rfl
  have hLk : ∀ {k b : Nat}, L[k]? = some b → J[k]? = some b := fun {k b} h => by
    rw [← hJ, List.getElem?_append_left]
    · exact h
    · rcases Nat.lt_or_ge k L.length with h' | h'
      · exact h'
      · simp [List.getElem?_eq_none h'] at h
  -- whose block is it
  have hown2 : ∀ c, (C.back J H0 φ' w').own c → (∃ k, (get H0 k).live = true ∧ φ' k = c) ∨ (∃ b, b ∉ J ∧ (C.g b).live = true ∧ C.φ b = c) := fun c => by
    rintro ⟨b, hl, rfl⟩
    by_cases hb : b ∈ J
    · obtain ⟨k, hk⟩ := List.getElem?_of_mem hb
      obtain ⟨e1, e2⟩ := hg1 hk
      rw [e1, hlive] at hl
      exact .inl ⟨k, hl, e2.symm⟩
    · obtain ⟨e1, e2⟩ := hg2 hb
      rw [e1] at hl
      exact .inr ⟨b, hb, hl, e2.symm⟩
  have hnotL : ∀ {b}, b ∉ J → b ∉ L := fun {b} h h' => h (by rw [← hJ]; exact List.mem_append_left _ h')
  have hlentB : ∀ {b}, b ∉ J → (C.g b).live = true → C.lent L (C.φ b) := fun {b} hb hl => .inr ⟨⟨b, hl, rfl⟩, fun b' hb' hl' he => hnotL hb (hH.inj b' b hl' hl he ▸ hb')⟩
  have hreown : ∀ c, (C.re L true (C.lent L)).own c → ∃ b ∈ L, (C.g b).live = true ∧ C.φ b = c := fun c h => by
    obtain ⟨k, b, hk, hl, he⟩ := re_own h
    exact ⟨b, List.mem_of_getElem? hk, hl, he⟩
  have hle2 : Le C (C.back J H0 φ' w') := {
    os := hle.os
    tape := hle.tape
    output := hle.output
    size := hle.size
    keep := fun c hc ho => hle.keep c hc (fun h => ho (re_own_own h))
    fresh := fun c h => by
      rcases hown2 c h with ⟨k, hl, rfl⟩ | ⟨b, _, hl, rfl⟩
      · rcases hle.fresh (φ' k) ⟨k, hl, rfl⟩ with h | h
        · exact .inl (re_own_own h)
        · exact .inr h
      · exact .inl ⟨b, hl, rfl⟩
    bo := rfl
    gl := rfl
    ref := fun b => by
      by_cases hb : b ∈ J
      · by_cases hbL : b ∈ L
        · obtain ⟨k, hk⟩ := List.getElem?_of_mem hbL
          obtain ⟨e1, e2⟩ := hg1 (hLk hk)
          have hr := hle.ref k
          have hφ : (C.re L true (C.lent L)).φ k = C.φ b := by simp [Cx.re, List.getD_eq_getElem?_getD, hk]
          rw [show (C.re L true (C.lent L)).g k = rsB L true C.g (C.g b) from get_rsG hk] at hr
          cases hg : C.g b with
          | hole => trivial
          | dead =>
            rw [hg] at hr
            have hr' : get H0 k = .dead := hr
            show (C.back J H0 φ' w').g b = .dead
            rw [e1, hr']; rfl
          | cells sz cs =>
            rw [hg] at hr
            rcases hr with hr | ⟨cs', hr, hr'⟩
            · have hr2 : get H0 k = .dead := hr
              exact .inl (by rw [e1, hr2]; rfl)
            · have hr2 : get H0 k = .cells sz cs' := hr
              refine .inr ⟨cs'.map (un J), by rw [e1, hr2]; rfl, ?_⟩
              rcases hr' with hr' | ⟨f1, f2, f3⟩
              · exact .inl (by simpa using hr')
              · rw [hφ] at f2 f3
                exact .inr ⟨by simpa using f1, by rw [e2]; exact f2, f3.imp (fun z => by simpa using z) id⟩
          | map es =>
            rw [hg] at hr
            rcases hr with hr | ⟨es', hr, hr'⟩
            · have hr2 : get H0 k = .dead := hr
              exact .inl (by rw [e1, hr2]; rfl)
            · have hr2 : get H0 k = .map es' := hr
              rw [hφ] at hr'
              exact .inr ⟨es', by rw [e1, hr2]; rfl, by rw [e2]; exact hr'⟩
        · have hbM : b ∈ M := by rw [← hJ] at hb; exact (List.mem_append.1 hb).resolve_left hbL
          rw [hM b hbM]; trivial
      · obtain ⟨e1, e2⟩ := hg2 hb
        cases hg : C.g b with
        | hole => trivial
        | dead => show (C.back J H0 φ' w').g b = .dead; rw [e1]; exact hg
        | cells sz cs =>
          refine .inr ⟨cs, by rw [e1]; exact hg, .inr ⟨rfl, e2, ?_⟩⟩
          rcases Classical.em (cs = []) with hcn | hcn
          · exact .inl hcn
          have hl : (C.g b).live = true := by rw [hg]; exact live_cells hcn
          exact .inr fun arr el h => ⟨arr, by
            rw [← h]
            exact hle.keep _ (hH.lt hl) (fun ho => by
              obtain ⟨b', hb', hl', he⟩ := hreown _ ho
              exact hnotL hb (hH.inj b' b hl' hl he ▸ hb')), rfl⟩
        | map es => exact .inr ⟨es, by rw [e1]; exact hg, e2⟩ }
  have hokc : ∀ c, (⟨φ', get H0, C.lent L, C.G, w'⟩ : Cx).ok false c → (C.back J H0 φ' w').ok false c := fun c ho => by
    refine ⟨fun h => ?_, fun _ h => ho.2 rfl (.inl h)⟩
    rcases hown2 c h with ⟨k, hl, rfl⟩ | ⟨b, hb, hl, rfl⟩
    · exact ho.1 ⟨k, hl, rfl⟩
    · exact ho.2 rfl (hlentB hb hl)
  have hbd : ∀ k, (⟨φ', get H0, C.lent L, C.G, w'⟩ : Cx).g k ≠ .hole → ∃ b, J[k]? = some b := fun k h => by
    have hk : k < J.length := by
      rcases Nat.lt_or_ge k J.length with h' | h'
      · exact h'
      · exact absurd (by simp [get, List.getD_eq_getElem?_getD, List.getElem?_eq_none (show H0.length ≤ k by omega)]) h
    exact ⟨J[k], by simp⟩
  have hvr : ∀ (a : AV) (v : Value), cln a = true → VR ⟨φ', get H0, C.lent L, C.G, w'⟩ a v → VR (C.back J H0 φ' w') (un J a) v := fun a v => un_vr hbd (fun k b h => hg1 h) rfl hokc a v
  refine ⟨hle2, ⟨fun b => ?_, fun b b' hl hl' he => ?_, fun c h => Nat.lt_of_lt_of_le (hH.bo c h) hle.size, fun i => hle2.vd (hH.gl i)⟩, hvr⟩
  · by_cases hb : b ∈ J
    · obtain ⟨k, hk⟩ := List.getElem?_of_mem hb
      obtain ⟨e1, e2⟩ := hg1 hk
      have h0 := hH'.blk k
      rw [e1]
      cases hx : get H0 k with
      | hole => trivial
      | dead => trivial
      | cells sz cs =>
        rw [show (⟨φ', get H0, C.lent L, C.G, w'⟩ : Cx).g k = .cells sz cs from hx] at h0
        rcases h0 with rfl | ⟨h1, h2, arr, el, h3, h4, h5⟩
        · exact .inl rfl
        refine .inr ⟨by rw [e2]; exact h1, by rw [e2]; exact fun h => h2 (.inl h), arr, el, by rw [e2]; exact h3, by simpa using h4, fun i x hx' => ?_⟩
        rw [List.getElem?_map] at hx'
        cases hy : cs[i]? with
        | none => rw [hy] at hx'; simp at hx'
        | some y =>
          rw [hy] at hx'
          simp at hx'
          subst hx'
          obtain ⟨v, hv, hr⟩ := h5 i y hy
          have hk0 : H0[k]? = some (.cells sz cs) := by
            have hk1 : k < H0.length := by
              rcases Nat.lt_or_ge k H0.length with h' | h'
              · exact h'
              · simp [get, List.getD_eq_getElem?_getD, List.getElem?_eq_none h'] at hx
            simpa [get, List.getD_eq_getElem?_getD, List.getElem?_eq_getElem hk1] using hx
          have hcB := List.all_eq_true.1 hcl _ (List.mem_of_getElem? hk0)
          exact ⟨v, hv, hvr y v ((clns_iff _).1 hcB y (List.mem_of_getElem? hy)) hr⟩
      | map es =>
        rw [show (⟨φ', get H0, C.lent L, C.G, w'⟩ : Cx).g k = .map es from hx] at h0
        obtain ⟨h1, h2, ens, clock, h3, h4⟩ := h0
        exact ⟨by rw [e2]; exact h1, by rw [e2]; exact fun h => h2 (.inl h), ens, clock, by rw [e2]; exact h3, h4⟩
    · obtain ⟨e1, e2⟩ := hg2 hb
      have h0 := hH.blk b
      rw [e1]
      have hkeep : (C.g b).live = true → w'.heap[C.φ b]? = C.w.heap[C.φ b]? := fun hl => hle.keep _ (hH.lt hl) (fun ho => by
        obtain ⟨b', hb', hl', he⟩ := hreown _ ho
        exact hnotL hb (hH.inj b' b hl' hl he ▸ hb'))
      cases hx : C.g b with
      | hole => trivial
      | dead => trivial
      | cells sz cs =>
        rw [hx] at h0 hkeep
        rcases h0 with rfl | ⟨h1, h2, arr, el, h3, h4, h5⟩
        · exact .inl rfl
        rcases Classical.em (cs = []) with hcn | hcn
        · exact .inl hcn
        exact .inr ⟨by rw [e2]; exact Nat.lt_of_lt_of_le h1 hle.size, by rw [e2]; exact h2, arr, el, by rw [e2]; exact (hkeep (live_cells hcn)).trans h3, h4, fun i x hx' => by
          obtain ⟨v, hv, hr⟩ := h5 i x hx'; exact ⟨v, hv, hle2.vr x v hr⟩⟩
      | map es =>
        rw [hx] at h0 hkeep
        obtain ⟨h1, h2, ens, clock, h3, h4⟩ := h0
        exact ⟨by rw [e2]; exact Nat.lt_of_lt_of_le h1 hle.size, by rw [e2]; exact h2, ens, clock, by rw [e2]; exact (hkeep rfl).trans h3, h4⟩
  · have side : ∀ {b : Nat}, ((C.back J H0 φ' w').g b).live = true → (∃ k, J[k]? = some b ∧ (get H0 k).live = true ∧ (C.back J H0 φ' w').φ b = φ' k) ∨ (b ∉ J ∧ (C.g b).live = true ∧ (C.back J H0 φ' w').φ b = C.φ b) := fun {b} hl => by
      by_cases hb : b ∈ J
      · obtain ⟨k, hk⟩ := List.getElem?_of_mem hb
        obtain ⟨e1, e2⟩ := hg1 hk
        rw [e1, hlive] at hl
        exact .inl ⟨k, hk, hl, e2⟩
      · obtain ⟨e1, e2⟩ := hg2 hb
        rw [e1] at hl
        exact .inr ⟨hb, hl, e2⟩
    have mixed : ∀ {k b : Nat}, (get H0 k).live = true → b ∉ J → (C.g b).live = true → φ' k ≠ C.φ b := fun {k b} hk hb hl he => by
      rcases hle.fresh (φ' k) ⟨k, hk, rfl⟩ with h | h
      · obtain ⟨b', hb', hl', he'⟩ := hreown _ h
        exact hnotL hb (hH.inj b' b hl' hl (he'.trans he) ▸ hb')
      · have h1 := hH.lt hl
        have h2 : C.w.heap.size ≤ φ' k := h
        omega
    rcases side hl with ⟨k, hk, hkl, e⟩ | ⟨hb, hbl, e⟩ <;> rcases side hl' with ⟨k', hk', hkl', e'⟩ | ⟨hb', hbl', e'⟩
    · have : k = k' := hH'.inj k k' hkl hkl' (e.symm.trans (he.trans e'))
      subst this
      rw [hk] at hk'
      exact Option.some.inj hk'
    · exact absurd (e.symm.trans (he.trans e')) (mixed hkl hb' hbl')
    · exact absurd (e'.symm.trans (he.symm.trans e)) (mixed hkl' hb hbl)
    · exact hH.inj b b' hbl hbl' (e.symm.trans (he.trans e'))

end
end Go.Proofs.Ytdacfgclclpooaa
