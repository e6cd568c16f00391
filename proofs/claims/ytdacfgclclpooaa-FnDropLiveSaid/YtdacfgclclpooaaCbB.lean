/- From one context to a later one: what stays, what may grow; and a context told anew over some of its blocks (lending, freezing). Conditions: none. -/
import Derived.Test.YtdacfgclclpooaaCbA
namespace Go.Proofs.Ytdacfgclclpooaa
open Go Go.RowKit

def Cx.sameAt (C C' : Cx) (c : Nat) : Prop := ∀ arr el, C.w.heap[c]? = some (.cells arr el (0, 0)) → ∃ arr' : Array Value, C'.w.heap[c]? = some (.cells arr' el (0, 0)) ∧ arr'.size = arr.size

def BLe (C C' : Cx) (b : Nat) : Blk → Prop
  | .hole => True
  | .dead => C'.g b = .dead
  | .cells sz cs => C'.g b = .dead ∨ ∃ cs', C'.g b = .cells sz cs' ∧ (cs.length < cs'.length ∨ (cs.length = cs'.length ∧ C'.φ b = C.φ b ∧ (cs = [] ∨ C.sameAt C' (C.φ b))))
  | .map _ => C'.g b = .dead ∨ ∃ es', C'.g b = .map es' ∧ C'.φ b = C.φ b

/-- C' is a later one than C. -/
structure Le (C C' : Cx) : Prop where
  os : C'.w.os = C.w.os
  tape : C'.w.tape = C.w.tape
  output : C'.w.output = C.w.output
  size : C.w.heap.size ≤ C'.w.heap.size
  keep : ∀ c, c < C.w.heap.size → ¬ C.own c → C'.w.heap[c]? = C.w.heap[c]?
  fresh : ∀ c, C'.own c → C.own c ∨ C.w.heap.size ≤ c
  bo : C'.Bo = C.Bo
  gl : C'.G = C.G
  ref : ∀ b, BLe C C' b (C.g b)

theorem Cx.sameAt.refl (C : Cx) (c : Nat) : C.sameAt C c := fun arr _ h => ⟨arr, h, rfl⟩

theorem Le.refl (C : Cx) : Le C C where
  os := rfl
  tape := rfl
  output := rfl
  size := Nat.le_refl _
  keep _ _ _ := rfl
  fresh _ h := .inl h
  bo := rfl
  gl := rfl
  ref b := by
    cases h : C.g b with
    | hole => trivial
    | dead => exact h
    | cells sz cs => exact .inr ⟨_, h, .inr ⟨rfl, rfl, .inr (.refl _ _)⟩⟩
    | map es => exact .inr ⟨_, h, rfl⟩

theorem Le.trans {C C' C'' : Cx} (h : Le C C') (k : Le C' C'') : Le C C'' where
  os := k.os.trans h.os
  tape := k.tape.trans h.tape
  output := k.output.trans h.output
  size := Nat.le_trans h.size k.size
  keep c hc ho := by
    rw [k.keep c (Nat.lt_of_lt_of_le hc h.size) (fun ho' => (h.fresh c ho').elim ho (fun x => by omega)), h.keep c hc ho]
  fresh c hc := by
    rcases k.fresh c hc with h' | h'
    · exact h.fresh c h'
    · exact .inr (Nat.le_trans h.size h')
  bo := k.bo.trans h.bo
  gl := k.gl.trans h.gl
  ref b := by
    have h1 := h.ref b
    have h2 := k.ref b
    cases hb : C.g b with
    | hole => trivial
    | dead => rw [hb] at h1; simp only [BLe] at h1; rw [h1] at h2; exact h2
    | cells sz cs =>
      rw [hb] at h1
      rcases h1 with h1 | ⟨cs', h1, h1'⟩
      · rw [h1] at h2; exact .inl h2
      · rw [h1] at h2
        rcases h2 with h2 | ⟨cs'', h2, h2'⟩
        · exact .inl h2
        · refine .inr ⟨cs'', h2, ?_⟩
          rcases h1' with h1' | ⟨e1, e2, e3⟩
          · rcases h2' with h2' | ⟨f1, _⟩
            · exact .inl (by omega)
            · exact .inl (by omega)
          · rcases h2' with h2' | ⟨f1, f2, f3⟩
            · exact .inl (by omega)
            · refine .inr ⟨by omega, f2.trans e2, ?_⟩
              rcases e3 with e3 | e3
              · exact .inl e3
              rcases f3 with f3 | f3
              · subst f3; exact .inl (List.eq_nil_of_length_eq_zero e1)
              refine .inr fun arr el ha => ?_
              obtain ⟨arr', ha', hs'⟩ := e3 arr el ha
              rw [← e2] at ha'
              obtain ⟨arr'', ha'', hs''⟩ := f3 arr' el ha'
              exact ⟨arr'', by rw [← e2]; exact ha'', by omega⟩
    | map es =>
      rw [hb] at h1
      rcases h1 with h1 | ⟨es', h1, h1'⟩
      · rw [h1] at h2; exact .inl h2
      · rw [h1] at h2
        rcases h2 with h2 | ⟨es'', h2, h2'⟩
        · exact .inl h2
        · exact .inr ⟨es'', h2, h2'.trans h1'⟩

theorem Le.okk {C C' : Cx} (h : Le C C') {t : Bool} {c : Nat} (hc : c < C.w.heap.size) (ho : C.ok t c) : C'.ok t c :=
  ⟨fun h' => (h.fresh c h').elim ho.1 (fun x => by omega), fun ht => by rw [h.bo]; exact ho.2 ht⟩

theorem Le.vd {C C' : Cx} (h : Le C C') {a : AV} {v : Value} (hv : VD C.ok C.w a v) : VD C'.ok C'.w a v :=
  VD.mono (fun _ _ hc ho => h.okk hc ho) (fun _ c hc ho => h.keep c hc ho.1) a v hv

mutual
theorem Le.vr {C C' : Cx} (h : Le C C') : ∀ (a : AV) (v : Value), VR C a v → VR C' a v
  | .sl b off n cap, v, hv => by
    obtain ⟨a, c, rfl, h1, h2, h3, h4⟩ := hv
    have hr := h.ref b
    refine ⟨a, c, rfl, h1, h2, ?_, ?_⟩
    · intro hh
      cases hb : C.g b with
      | hole => exact h3 hb
      | dead => rw [hb] at hr; simp only [BLe] at hr; rw [hr] at hh; cases hh
      | cells sz cs =>
        rw [hb] at hr
        rcases hr with hr | ⟨cs', hr, _⟩ <;> rw [hr] at hh <;> cases hh
      | map es =>
        rw [hb] at hr
        rcases hr with hr | ⟨cs', hr, _⟩ <;> rw [hr] at hh <;> cases hh
    · intro sz cs' hg
      cases hb : C.g b with
      | hole => exact absurd hb h3
      | dead => rw [hb] at hr; simp only [BLe] at hr; rw [hr] at hg; cases hg
      | map es =>
        rw [hb] at hr
        rcases hr with hr | ⟨cs', hr, _⟩ <;> rw [hr] at hg <;> cases hg
      | cells sz0 cs =>
        rw [hb] at hr
        obtain ⟨h5, h6⟩ := h4 sz0 cs hb
        rcases hr with hr | ⟨cs2, hr, hr'⟩
        · rw [hr] at hg; cases hg
        · rw [hr] at hg
          cases hg
          rcases hr' with hr' | ⟨e1, e2, e3⟩
          · exact ⟨by omega, fun e => by omega⟩
          · refine ⟨by omega, fun e => ?_⟩
            rcases h6 (by omega) with ⟨z1, z2⟩ | ⟨z1, arr, el, harr, hsz⟩
            · subst z1; exact .inl ⟨List.eq_nil_of_length_eq_zero e1.symm, z2⟩
            replace e3 := e3.resolve_left z1
            obtain ⟨arr', harr', hs'⟩ := e3 arr el harr
            exact .inr ⟨fun z => z1 (List.eq_nil_of_length_eq_zero (by rw [e1, z]; rfl)), arr', el, by rw [e2]; exact harr', hsz.imp id (fun ⟨ha, hl⟩ => ⟨by rw [e2]; exact ha, by omega⟩)⟩
  | .p b off len, v, hv => by
    obtain ⟨a, rfl, h3, h4⟩ := hv
    have hr := h.ref b
    refine ⟨a, rfl, ?_, ?_⟩
    · intro hh
      cases hb : C.g b with
      | hole => exact h3 hb
      | dead => rw [hb] at hr; simp only [BLe] at hr; rw [hr] at hh; cases hh
      | cells sz cs =>
        rw [hb] at hr
        rcases hr with hr | ⟨cs', hr, _⟩ <;> rw [hr] at hh <;> cases hh
      | map es =>
        rw [hb] at hr
        rcases hr with hr | ⟨cs', hr, _⟩ <;> rw [hr] at hh <;> cases hh
    · intro sz cs' hg
      cases hb : C.g b with
      | hole => exact absurd hb h3
      | dead => rw [hb] at hr; simp only [BLe] at hr; rw [hr] at hg; cases hg
      | map es =>
        rw [hb] at hr
        rcases hr with hr | ⟨cs', hr, _⟩ <;> rw [hr] at hg <;> cases hg
      | cells sz0 cs =>
        rw [hb] at hr
        obtain ⟨h5, h6⟩ := h4 sz0 cs hb
        rcases hr with hr | ⟨cs2, hr, hr'⟩
        · rw [hr] at hg; cases hg
        · rw [hr] at hg
          cases hg
          rcases hr' with hr' | ⟨e1, e2, e3⟩
          · exact ⟨by omega, fun e => by omega⟩
          · exact ⟨by omega, fun e => by rw [e2]; exact h6 (by omega)⟩
  | .mp b, v, hv => by
    obtain ⟨r, rfl, h3, h4⟩ := hv
    have hr := h.ref b
    refine ⟨r, rfl, ?_, ?_⟩
    · intro hh
      cases hb : C.g b with
      | hole => exact h3 hb
      | dead => rw [hb] at hr; simp only [BLe] at hr; rw [hr] at hh; cases hh
      | cells sz cs =>
        rw [hb] at hr
        rcases hr with hr | ⟨cs', hr, _⟩ <;> rw [hr] at hh <;> cases hh
      | map es =>
        rw [hb] at hr
        rcases hr with hr | ⟨cs', hr, _⟩ <;> rw [hr] at hh <;> cases hh
    · intro es' hg
      cases hb : C.g b with
      | hole => exact absurd hb h3
      | dead => rw [hb] at hr; simp only [BLe] at hr; rw [hr] at hg; cases hg
      | cells sz cs =>
        rw [hb] at hr
        rcases hr with hr | ⟨cs', hr, _⟩ <;> rw [hr] at hg <;> cases hg
      | map es =>
        rw [hb] at hr
        rcases hr with hr | ⟨cs2, hr, hr'⟩
        · rw [hr] at hg; cases hg
        · rw [hr']; exact h4 es hb
  | .agg cs, v, hv => by obtain ⟨vs, rfl, hv⟩ := hv; exact ⟨vs, rfl, Le.vrs h cs _ hv⟩
  | .tup cs, v, hv => by obtain ⟨vs, rfl, hv⟩ := hv; exact ⟨vs, rfl, Le.vrs h cs _ hv⟩
  | .fn f cs, v, hv => by obtain ⟨vs, rfl, hv⟩ := hv; exact ⟨vs, rfl, Le.vrs h cs _ hv⟩
  | .b _, _, hv => h.vd hv
  | .i _ _, _, hv => h.vd hv
  | .s _, _, hv => h.vd hv
  | .fz .., _, hv => h.vd hv
  | .rp .., _, hv => h.vd hv
  | .nilS, _, hv => h.vd hv
  | .nilP, _, hv => h.vd hv
  | .err _, _, hv => h.vd hv
  | .u, _, _ => trivial
theorem Le.vrs {C C' : Cx} (h : Le C C') : ∀ (as : List AV) (vs : List Value), VRs C as vs → VRs C' as vs
  | [], _, hv => hv
  | a :: as, vs, hv => by
    obtain ⟨v, vs', rfl, h1, h2⟩ := hv
    exact ⟨v, vs', rfl, Le.vr h a v h1, Le.vrs h as vs' h2⟩
end

/-! ### told anew over the blocks L; what is not among them is told as frozen data -/

def dOnly : AV → AV
  | .sl .. => .u
  | .p .. => .u
  | .mp _ => .u
  | .fn .. => .u
  | .agg _ => .u
  | .tup _ => .u
  | a => a

mutual
def rs (L : List Nat) (t : Bool) (g : Nat → Blk) : AV → AV
  | .sl b off n cap => match L.idxOf? b with
    | some k => .sl k off n cap
    | none => match g b with
      | .cells sz cs => if sz ≠ 0 ∧ off + cap * sz = cs.length then .fz t n (if n = cap then (cs.drop off).map dOnly else ((cs.drop off).take (n * sz)).map dOnly) else .u
      | _ => .u
  | .p b off len => match L.idxOf? b with
    | some k => .p k off len
    | none => match g b with
      | .cells _ cs => if len = cs.length then .rp t (cs.map dOnly) off else .u
      | _ => .u
  | .mp b => match L.idxOf? b with
    | some k => .mp k
    | none => .u
  | .agg cs => .agg (rss L t g cs)
  | .tup cs => .tup (rss L t g cs)
  | .fn f cs => .fn f (rss L t g cs)
  | .b x => .b x
  | .i k n => .i k n
  | .s l => .s l
  | .fz t n cs => .fz t n cs
  | .rp t cs off => .rp t cs off
  | .nilS => .nilS
  | .nilP => .nilP
  | .err x => .err x
  | .u => .u
def rss (L : List Nat) (t : Bool) (g : Nat → Blk) : List AV → List AV
  | [] => []
  | a :: as => rs L t g a :: rss L t g as
end

theorem rss_map (L : List Nat) (t : Bool) (g : Nat → Blk) : ∀ as, rss L t g as = as.map (rs L t g)
  | [] => rfl
  | a :: as => by rw [rss, rss_map L t g as, List.map_cons]

def rsB (L : List Nat) (t : Bool) (g : Nat → Blk) : Blk → Blk
  | .cells sz cs => .cells sz (cs.map (rs L t g))
  | x => x

def rsG (L : List Nat) (t : Bool) (g : Nat → Blk) : Hp := L.map fun b => rsB L t g (g b)

end Go.Proofs.Ytdacfgclclpooaa
