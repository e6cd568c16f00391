/- A new block of the call's own, and one that is written or grows: the context behind it is a later one. Conditions: none. -/
import Derived.Test.YtdacfgclclpooaaCbC
import Derived.Laws.IdiomCopy
namespace Go.Proofs.Ytdacfgclclpooaa
open Go Go.RowKit

def upd1 {α : Type} (f : Nat → α) (b : Nat) (x : α) : Nat → α := fun i => if i = b then x else f i
@[simp] theorem upd1_same {α : Type} (f : Nat → α) (b : Nat) (x : α) : upd1 f b x b = x := by simp [upd1]
theorem upd1_ne {α : Type} (f : Nat → α) {b i : Nat} (x : α) (h : i ≠ b) : upd1 f b x i = f i := by simp [upd1, h]

theorem HR.lt {C : Cx} (h : HR C) {b : Nat} (hl : (C.g b).live = true) : C.φ b < C.w.heap.size := by
  have := h.blk b
  cases hb : C.g b with
  | hole => rw [hb] at hl; cases hl
  | dead => rw [hb] at hl; cases hl
  | cells sz cs =>
    rw [hb] at this hl
    exact (this.resolve_left (fun z => by rw [z] at hl; cases hl)).1
  | map es => rw [hb] at this; exact this.1

theorem HR.own_lt {C : Cx} (h : HR C) {c : Nat} (hc : C.own c) : c < C.w.heap.size := by
  obtain ⟨b, hl, rfl⟩ := hc; exact h.lt hl

/-- A new block. -/
theorem new_block {C : Cx} (hH : HR C) {id : Nat} (hid : C.g id = .hole) (blk : Blk) (o : Obj)
    (hb : match blk with
      | .cells _ cs => ∃ arr el, o = .cells arr el (0, 0) ∧ cs.length ≤ arr.size ∧ ∀ (i : Nat) x, cs[i]? = some x → ∃ v, arr[i]? = some v ∧ VR C x v
      | .map es => ∃ ens clock, o = .map ens clock ∧ ens.toList.map (fun e => (e.key, e.val)) = es.map (fun e => (Value.string ⟨e.1.toArray⟩, Value.bool e.2))
      | _ => False) :
    Le C ⟨upd1 C.φ id C.w.heap.size, upd1 C.g id blk, C.Bo, C.G, C.w.alloc o⟩ ∧ HR ⟨upd1 C.φ id C.w.heap.size, upd1 C.g id blk, C.Bo, C.G, C.w.alloc o⟩ := by
  have hold : ∀ c, c < C.w.heap.size → (C.w.alloc o).heap[c]? = C.w.heap[c]? := fun c hc => Below.heap_alloc _ _ _ hc
  have hnew : (C.w.alloc o).heap[C.w.heap.size]? = some o := by show (C.w.heap.push o)[C.w.heap.size]? = some o; simp
  have hle : Le C ⟨upd1 C.φ id C.w.heap.size, upd1 C.g id blk, C.Bo, C.G, C.w.alloc o⟩ := {
    os := rfl
    tape := rfl
    output := rfl
    size := by simp
    keep := fun c hc _ => hold c hc
    fresh := by
      rintro c ⟨b, hl, rfl⟩
      by_cases e : b = id
      · subst e; exact .inr (by simp)
      · simp only [upd1_ne _ _ e] at hl ⊢; exact .inl ⟨b, hl, rfl⟩
    bo := rfl
    gl := rfl
    ref := fun b => by
      by_cases e : b = id
      · subst e; rw [hid]; trivial
      · cases hb' : C.g b with
        | hole => trivial
        | dead => show upd1 C.g id blk b = .dead; rw [upd1_ne _ _ e]; exact hb'
        | cells sz cs =>
          refine .inr ⟨cs, by show upd1 C.g id blk b = _; rw [upd1_ne _ _ e]; exact hb', .inr ⟨rfl, upd1_ne _ _ e, ?_⟩⟩
          rcases Classical.em (cs = []) with hne | hne
          · exact .inl hne
          have hlt := hH.lt (b := b) (by rw [hb']; exact live_cells hne)
          exact .inr fun arr el h => ⟨arr, by rw [← h]; exact hold _ hlt, rfl⟩
        | map es => exact .inr ⟨es, by show upd1 C.g id blk b = _; rw [upd1_ne _ _ e]; exact hb', upd1_ne _ _ e⟩ }
  refine ⟨hle, ⟨fun b => ?_, fun b b' hl hl' he => ?_, fun c hc => by have := hH.bo c hc; simp; omega, fun i => hle.vd (hH.gl i)⟩⟩
  · show BlkR _ b (upd1 C.g id blk b)
    by_cases e : b = id
    · subst e
      rw [upd1_same]
      have hφ : upd1 C.φ b C.w.heap.size b = C.w.heap.size := upd1_same _ _ _
      have hnb : ¬ C.Bo C.w.heap.size := fun hb => by have := hH.bo _ hb; omega
      cases blk with
      | hole => trivial
      | dead => trivial
      | cells sz cs =>
        obtain ⟨arr, el, rfl, hlen, hc⟩ := hb
        refine .inr ⟨?_, ?_, arr, el, ?_, hlen, fun i x hx => ?_⟩
        · show upd1 C.φ b C.w.heap.size b < _; rw [hφ]; simp
        · show ¬ C.Bo (upd1 C.φ b C.w.heap.size b); rw [hφ]; exact hnb
        · show (C.w.alloc _).heap[upd1 C.φ b C.w.heap.size b]? = _; rw [hφ]; exact hnew
        · obtain ⟨v, hv, hr⟩ := hc i x hx; exact ⟨v, hv, hle.vr x v hr⟩
      | map es =>
        obtain ⟨ens, clock, rfl, hm⟩ := hb
        refine ⟨?_, ?_, ens, clock, ?_, hm⟩
        · show upd1 C.φ b C.w.heap.size b < _; rw [hφ]; simp
        · show ¬ C.Bo (upd1 C.φ b C.w.heap.size b); rw [hφ]; exact hnb
        · show (C.w.alloc _).heap[upd1 C.φ b C.w.heap.size b]? = _; rw [hφ]; exact hnew
    · rw [upd1_ne _ _ e]
      have hφ : upd1 C.φ id C.w.heap.size b = C.φ b := upd1_ne _ _ e
      have h0 := hH.blk b
      cases hb' : C.g b with
      | hole => trivial
      | dead => trivial
      | cells sz cs =>
        rw [hb'] at h0
        rcases h0 with rfl | ⟨h1, h2, arr, el, h3, h4, h5⟩
        · exact .inl rfl
        refine .inr ⟨?_, ?_, arr, el, ?_, h4, fun i x hx => ?_⟩
        · show upd1 C.φ id C.w.heap.size b < _; rw [hφ]; simp; omega
        · show ¬ C.Bo (upd1 C.φ id C.w.heap.size b); rw [hφ]; exact h2
        · show (C.w.alloc _).heap[upd1 C.φ id C.w.heap.size b]? = _; rw [hφ, hold _ h1]; exact h3
        · obtain ⟨v, hv, hr⟩ := h5 i x hx; exact ⟨v, hv, hle.vr x v hr⟩
      | map es =>
        rw [hb'] at h0
        obtain ⟨h1, h2, ens, clock, h3, h4⟩ := h0
        refine ⟨?_, ?_, ens, clock, ?_, h4⟩
        · show upd1 C.φ id C.w.heap.size b < _; rw [hφ]; simp; omega
        · show ¬ C.Bo (upd1 C.φ id C.w.heap.size b); rw [hφ]; exact h2
        · show (C.w.alloc _).heap[upd1 C.φ id C.w.heap.size b]? = _; rw [hφ, hold _ h1]; exact h3
  · simp only at hl hl' he
    by_cases e : b = id <;> by_cases e' : b' = id
    · rw [e, e']
    · subst e
      rw [upd1_ne _ _ e'] at hl' he
      rw [upd1_same] at he
      have := hH.lt hl'
      omega
    · subst e'
      rw [upd1_ne _ _ e] at hl he
      rw [upd1_same] at he
      have := hH.lt hl
      omega
    · rw [upd1_ne _ _ e] at hl he
      rw [upd1_ne _ _ e'] at hl' he
      exact hH.inj b b' hl hl' he

/-- An own block that is told anew: written in place, grown in place, or grown into a new block. -/
theorem upd_block {C : Cx} (hH : HR C) {b : Nat} {blk : Blk} (w' : World) (φb : Nat) (hl : (C.g b).live = true ∨ ((∃ sz, C.g b = .cells sz []) ∧ C.w.heap.size ≤ φb ∧ ∀ c, c < C.w.heap.size → w'.heap[c]? = C.w.heap[c]?))
    (hos : w'.os = C.w.os) (htape : w'.tape = C.w.tape) (hout : w'.output = C.w.output) (hsz : C.w.heap.size ≤ w'.heap.size)
    (hkeep : ∀ c, c < C.w.heap.size → c ≠ C.φ b → w'.heap[c]? = C.w.heap[c]?)
    (hφ : φb = C.φ b ∨ C.w.heap.size ≤ φb) (hlt : φb < w'.heap.size)
    (hb : match blk with
      | .cells sz cs' => (∃ cs, C.g b = .cells sz cs ∧ (cs.length < cs'.length ∨ (cs.length = cs'.length ∧ φb = C.φ b ∧ ∀ arr el, C.w.heap[C.φ b]? = some (.cells arr el (0, 0)) → ∃ arr' : Array Value, w'.heap[C.φ b]? = some (.cells arr' el (0, 0)) ∧ arr'.size = arr.size))) ∧
          ∃ arr el, w'.heap[φb]? = some (.cells arr el (0, 0)) ∧ cs'.length ≤ arr.size ∧ ∀ (i : Nat) x, cs'[i]? = some x → ∃ v, arr[i]? = some v ∧ VR C x v
      | .map es' => (∃ es, C.g b = .map es) ∧ φb = C.φ b ∧ ∃ ens clock, w'.heap[φb]? = some (.map ens clock) ∧ ens.toList.map (fun e => (e.key, e.val)) = es'.map (fun e => (Value.string ⟨e.1.toArray⟩, Value.bool e.2))
      | _ => False) :
    Le C ⟨upd1 C.φ b φb, upd1 C.g b blk, C.Bo, C.G, w'⟩ ∧ HR ⟨upd1 C.φ b φb, upd1 C.g b blk, C.Bo, C.G, w'⟩ := by
  have hkp : ∀ b', b' ≠ b → (C.g b').live = true → w'.heap[C.φ b']? = C.w.heap[C.φ b']? := fun b' hne hl' => by
    rcases hl with hl | ⟨_, _, hl⟩
    · exact hkeep _ (hH.lt hl') (fun h => hne (hH.inj b' b hl' hl h))
    · exact hl _ (hH.lt hl')
  have hnw : (C.g b).live = true ∨ C.w.heap.size ≤ φb := hl.imp id (fun h => h.2.1)
  have hle : Le C ⟨upd1 C.φ b φb, upd1 C.g b blk, C.Bo, C.G, w'⟩ := {
    os := hos
    tape := htape
    output := hout
    size := hsz
    keep := fun c hc ho => by
      rcases hl with hl | ⟨_, _, hl⟩
      · exact hkeep c hc (fun e => ho (e ▸ ⟨b, hl, rfl⟩))
      · exact hl c hc
    fresh := by
      rintro c ⟨b', hl', rfl⟩
      by_cases e : b' = b
      · subst e
        simp only [upd1_same]
        rcases hnw with hl | hnw
        · rcases hφ with hφ | hφ
          · rw [hφ]; exact .inl ⟨b', hl, rfl⟩
          · exact .inr hφ
        · exact .inr hnw
      · simp only [upd1_ne _ _ e] at hl' ⊢; exact .inl ⟨b', hl', rfl⟩
    bo := rfl
    gl := rfl
    ref := fun b' => by
      by_cases e : b' = b
      · subst e
        cases blk with
        | hole => exact hb.elim
        | dead => exact hb.elim
        | cells sz cs' =>
          obtain ⟨⟨cs, hg, h⟩, _⟩ := hb
          rw [hg]
          refine .inr ⟨cs', upd1_same _ _ _, h.imp id ?_⟩
          rintro ⟨h1, h2, h3⟩
          exact ⟨h1, (upd1_same _ _ _).trans h2, .inr h3⟩
        | map es' =>
          obtain ⟨⟨es, hg⟩, h2, _⟩ := hb
          rw [hg]
          exact .inr ⟨es', upd1_same _ _ _, (upd1_same _ _ _).trans h2⟩
      · cases hb' : C.g b' with
        | hole => trivial
        | dead => show upd1 C.g b blk b' = .dead; rw [upd1_ne _ _ e]; exact hb'
        | cells sz cs =>
          refine .inr ⟨cs, by show upd1 C.g b blk b' = _; rw [upd1_ne _ _ e]; exact hb', .inr ⟨rfl, upd1_ne _ _ e, ?_⟩⟩
          rcases Classical.em (cs = []) with hne | hne
          · exact .inl hne
          exact .inr fun arr el h => ⟨arr, by rw [← h]; exact hkp b' e (by rw [hb']; exact live_cells hne), rfl⟩
        | map es => exact .inr ⟨es, by show upd1 C.g b blk b' = _; rw [upd1_ne _ _ e]; exact hb', upd1_ne _ _ e⟩ }
  have hnb : ¬ C.Bo φb := fun hB => by
    rcases hnw with hl | hnw
    · rcases hφ with hφ | hφ
      · rw [hφ] at hB
        have h0 := hH.blk b
        cases hg : C.g b with
        | hole => rw [hg] at hl; cases hl
        | dead => rw [hg] at hl; cases hl
        | cells sz cs => rw [hg] at h0 hl; exact (h0.resolve_left (fun z => by rw [z] at hl; cases hl)).2.1 hB
        | map es => rw [hg] at h0; exact h0.2.1 hB
      · have := hH.bo _ hB; omega
    · have := hH.bo _ hB; omega
  refine ⟨hle, ⟨fun b' => ?_, fun b1 b2 hl1 hl2 he => ?_, fun c hc => Nat.lt_of_lt_of_le (hH.bo c hc) hsz, fun i => hle.vd (hH.gl i)⟩⟩
  · show BlkR _ b' (upd1 C.g b blk b')
    by_cases e : b' = b
    · subst e
      rw [upd1_same]
      have hφ' : upd1 C.φ b' φb b' = φb := upd1_same _ _ _
      cases blk with
      | hole => trivial
      | dead => trivial
      | cells sz cs =>
        obtain ⟨_, arr, el, h3, hlen, hc⟩ := hb
        refine .inr ⟨?_, ?_, arr, el, ?_, hlen, fun i x hx => ?_⟩
        · show upd1 C.φ b' φb b' < _; rw [hφ']; exact hlt
        · show ¬ C.Bo (upd1 C.φ b' φb b'); rw [hφ']; exact hnb
        · show w'.heap[upd1 C.φ b' φb b']? = _; rw [hφ']; exact h3
        · obtain ⟨v, hv, hr⟩ := hc i x hx; exact ⟨v, hv, hle.vr x v hr⟩
      | map es =>
        obtain ⟨_, _, ens, clock, h3, hm⟩ := hb
        refine ⟨?_, ?_, ens, clock, ?_, hm⟩
        · show upd1 C.φ b' φb b' < _; rw [hφ']; exact hlt
        · show ¬ C.Bo (upd1 C.φ b' φb b'); rw [hφ']; exact hnb
        · show w'.heap[upd1 C.φ b' φb b']? = _; rw [hφ']; exact h3
    · rw [upd1_ne _ _ e]
      have hφ' : upd1 C.φ b φb b' = C.φ b' := upd1_ne _ _ e
      have h0 := hH.blk b'
      have hne := hkp b' e
      cases hb' : C.g b' with
      | hole => trivial
      | dead => trivial
      | cells sz cs =>
        rw [hb'] at h0 hne
        rcases h0 with rfl | ⟨h1, h2, arr, el, h3, h4, h5⟩
        · exact .inl rfl
        rcases Classical.em (cs = []) with hcn | hcn
        · exact .inl hcn
        refine .inr ⟨?_, ?_, arr, el, ?_, h4, fun i x hx => ?_⟩
        · show upd1 C.φ b φb b' < _; rw [hφ']; exact Nat.lt_of_lt_of_le h1 hsz
        · show ¬ C.Bo (upd1 C.φ b φb b'); rw [hφ']; exact h2
        · show w'.heap[upd1 C.φ b φb b']? = _; rw [hφ', hne (live_cells hcn)]; exact h3
        · obtain ⟨v, hv, hr⟩ := h5 i x hx; exact ⟨v, hv, hle.vr x v hr⟩
      | map es =>
        rw [hb'] at h0 hne
        obtain ⟨h1, h2, ens, clock, h3, h4⟩ := h0
        refine ⟨?_, ?_, ens, clock, ?_, h4⟩
        · show upd1 C.φ b φb b' < _; rw [hφ']; exact Nat.lt_of_lt_of_le h1 hsz
        · show ¬ C.Bo (upd1 C.φ b φb b'); rw [hφ']; exact h2
        · show w'.heap[upd1 C.φ b φb b']? = _; rw [hφ', hne rfl]; exact h3
  · simp only at hl1 hl2 he
    by_cases e : b1 = b <;> by_cases e' : b2 = b
    · rw [e, e']
    · subst e
      rw [upd1_ne _ _ e'] at hl2 he
      rw [upd1_same] at he
      have := hH.lt hl2
      rcases hφ with hφ | hφ
      · rcases hnw with hl | hnw
        · exact (hH.inj b2 b1 hl2 hl (by omega)).symm
        · omega
      · omega
    · subst e'
      rw [upd1_ne _ _ e] at hl1 he
      rw [upd1_same] at he
      have := hH.lt hl1
      rcases hφ with hφ | hφ
      · rcases hnw with hl | hnw
        · exact hH.inj b1 b2 hl1 hl (by omega)
        · omega
      · omega
    · rw [upd1_ne _ _ e] at hl1 he
      rw [upd1_ne _ _ e'] at hl2 he
      exact hH.inj b1 b2 hl1 hl2 he

/-- A draw turns nothing. -/
theorem drew_ok {C : Cx} (hH : HR C) : Le C ⟨C.φ, C.g, C.Bo, C.G, C.w.drew⟩ ∧ HR ⟨C.φ, C.g, C.Bo, C.G, C.w.drew⟩ := by
  have hle : Le C ⟨C.φ, C.g, C.Bo, C.G, C.w.drew⟩ := {
    os := rfl
    tape := rfl
    output := rfl
    size := Nat.le_refl _
    keep := fun _ _ _ => rfl
    fresh := fun _ h => .inl h
    bo := rfl
    gl := rfl
    ref := fun b => by
      cases h : C.g b with
      | hole => trivial
      | dead => exact h
      | cells sz cs => exact .inr ⟨_, h, .inr ⟨rfl, rfl, .inr fun a e h => ⟨a, h, rfl⟩⟩⟩
      | map es => exact .inr ⟨_, h, rfl⟩ }
  refine ⟨hle, ⟨fun b => ?_, hH.inj, hH.bo, fun i => hle.vd (hH.gl i)⟩⟩
  have h0 := hH.blk b
  show BlkR _ b (C.g b)
  cases hb : C.g b with
  | hole => trivial
  | dead => trivial
  | cells sz cs =>
    rw [hb] at h0
    rcases h0 with rfl | ⟨h1, h2, arr, el, h3, h4, h5⟩
    · exact .inl rfl
    exact .inr ⟨h1, h2, arr, el, h3, h4, fun i x hx => by obtain ⟨v, hv, hr⟩ := h5 i x hx; exact ⟨v, hv, hle.vr x v hr⟩⟩
  | map es =>
    rw [hb] at h0
    exact h0

end Go.Proofs.Ytdacfgclclpooaa
