/- A context told anew over some of its blocks: every value that it knew is known in the new one. Conditions: none. -/
import Derived.Test.YtdacfgclclpooaaCbB
namespace Go.Proofs.Ytdacfgclclpooaa
open Go Go.RowKit
set_option linter.unusedSectionVars false

theorem cell_of_heap {w : World} {c o : Nat} {arr : Array Value} {el : TypeId} {fr : Nat × Nat} (h : w.heap[c]? = some (.cells arr el fr)) : w.cell? ⟨c, o, none⟩ = arr[o]? := by
  simp [World.cell?, h]

theorem dOnly_vd {C : Cx} : ∀ (a : AV) (v : Value), VR C a v → VD C.ok C.w (dOnly a) v
  | .sl .., _, _ => trivial
  | .p .., _, _ => trivial
  | .mp _, _, _ => trivial
  | .fn .., _, _ => trivial
  | .agg _, _, _ => trivial
  | .tup _, _, _ => trivial
  | .b _, _, hv => hv
  | .i _ _, _, hv => hv
  | .s _, _, hv => hv
  | .fz .., _, hv => hv
  | .rp .., _, hv => hv
  | .nilS, _, hv => hv
  | .nilP, _, hv => hv
  | .err _, _, hv => hv
  | .u, _, _ => trivial

theorem get_rsG {L : List Nat} {t : Bool} {g : Nat → Blk} {k b : Nat} (h : L[k]? = some b) : get (rsG L t g) k = rsB L t g (g b) := by
  simp [get, rsG, List.getD_eq_getElem?_getD, h]

theorem get_rsG_none {L : List Nat} {t : Bool} {g : Nat → Blk} {k : Nat} (h : L[k]? = none) : get (rsG L t g) k = .hole := by
  simp [get, rsG, List.getD_eq_getElem?_getD, h]

theorem idx_some {L : List Nat} {b k : Nat} (h : L.idxOf? b = some k) : L[k]? = some b := by
  induction L generalizing k with
  | nil => simp at h
  | cons a L ih =>
    rw [List.idxOf?_cons] at h
    by_cases e : a = b
    · subst e; simp at h; subst h; rfl
    · have e' : (a == b) = false := by simpa using e
      simp [e'] at h
      obtain ⟨j, hj, rfl⟩ := h
      simpa using ih hj

theorem idx_none {L : List Nat} {b : Nat} (h : L.idxOf? b = none) : b ∉ L := by
  simpa using h

/-- The context told anew. -/
def Cx.re (C : Cx) (L : List Nat) (t : Bool) (Bo1 : Nat → Prop) : Cx := ⟨fun k => C.φ (L.getD k 0), get (rsG L t C.g), Bo1, C.G, C.w⟩

theorem rsB_live {L t g} (x : Blk) : (rsB L t g x).live = x.live := by
  cases x with
  | cells sz cs => cases cs <;> rfl
  | _ => rfl
theorem live_cells {sz : Nat} {cs : List AV} (h : cs ≠ []) : (Blk.cells sz cs).live = true := by cases cs <;> simp_all [Blk.live]

theorem re_own {C : Cx} {L : List Nat} {t : Bool} {Bo1 : Nat → Prop} {c : Nat} (h : (C.re L t Bo1).own c) : ∃ (k : Nat) (b : Nat), L[k]? = some b ∧ (C.g b).live = true ∧ C.φ b = c := by
  obtain ⟨k, hl, hc⟩ := h
  cases hk : L[k]? with
  | none => simp only [Cx.re, get_rsG_none hk] at hl; cases hl
  | some b =>
    simp only [Cx.re, get_rsG hk, rsB_live] at hl
    simp only [Cx.re, List.getD_eq_getElem?_getD, hk, Option.getD_some] at hc
    exact ⟨k, b, hk, hl, hc⟩

theorem re_own_own {C : Cx} {L : List Nat} {t : Bool} {Bo1 : Nat → Prop} {c : Nat} (h : (C.re L t Bo1).own c) : C.own c :=
  let ⟨_, b, _, hl, hc⟩ := re_own h; ⟨b, hl, hc⟩

theorem drop_at (cs : List AV) (off : Nat) (i : Nat) (x : AV) (h : (cs.drop off)[i]? = some x) : cs[off + i]? = some x := by simpa using h

theorem nodup_at : ∀ {L : List Nat}, L.Nodup → ∀ {k k' b : Nat}, L[k]? = some b → L[k']? = some b → k = k'
  | [], _, k, k', b, h, _ => by simp at h
  | a :: L, hn, k, k', b, h, h' => by
    obtain ⟨h1, h2⟩ := List.nodup_cons.1 hn
    cases k <;> cases k'
    · rfl
    · simp at h h'; subst h; exact absurd (List.mem_of_getElem? h') h1
    · simp at h h'; subst h'; exact absurd (List.mem_of_getElem? h) h1
    · simp at h h'; rw [nodup_at h2 h h']

section
variable {C : Cx} {L : List Nat} {t : Bool} {Bo1 : Nat → Prop} (hH : HR C) (hok : ∀ t' c, C.ok t' c → (C.re L t Bo1).ok t' c)
  (hfz : ∀ b, (C.g b).live = true → b ∉ L → (C.re L t Bo1).ok t (C.φ b))
include hH hok hfz

theorem re_vd {a : AV} {v : Value} (h : VD C.ok C.w a v) : VD (C.re L t Bo1).ok (C.re L t Bo1).w a v :=
  VD.mono (fun t' c _ ho => hok t' c ho) (fun _ _ _ _ => rfl) a v h

theorem re_cells {b : Nat} {sz : Nat} {cs : List AV} (hb : C.g b = .cells sz cs) (cs1 : List AV) (off : Nat) (hcs : ∀ (i : Nat) x, cs1[i]? = some x → cs[off + i]? = some x) :
    VDm (C.re L t Bo1).ok (C.re L t Bo1).w (cs1.map dOnly) (C.φ b) off := by
  rw [vdm_iff]
  intro i x hx
  have hk := hH.blk b
  rw [hb] at hk
  rw [List.getElem?_map] at hx
  cases hy : cs1[i]? with
  | none => rw [hy] at hx; simp at hx
  | some y =>
    rw [hy] at hx
    simp at hx
    subst hx
    rcases hk with rfl | ⟨_, _, arr, el, harr, hlen, hc⟩
    · have := hcs i y hy; simp at this
    obtain ⟨v, hv, hr⟩ := hc _ _ (hcs i y hy)
    exact ⟨v, by rw [← hv]; exact cell_of_heap harr, re_vd hH hok hfz (dOnly_vd y v hr)⟩

mutual
theorem re_vr : ∀ (a : AV) (v : Value), VR C a v → VR (C.re L t Bo1) (rs L t C.g a) v
  | .sl b off n cap, v, hv => by
    obtain ⟨a, c, rfl, h1, h2, h3, h4⟩ := hv
    rw [rs]
    cases hi : L.idxOf? b with
    | some k =>
      have hk := idx_some hi
      have hφ : (C.re L t Bo1).φ k = C.φ b := by simp [Cx.re, List.getD_eq_getElem?_getD, hk]
      have hg : (C.re L t Bo1).g k = rsB L t C.g (C.g b) := get_rsG hk
      refine ⟨a, c, rfl, h1, h2, ?_, fun sz cs1 hc => ?_⟩
      · rw [hg]; cases hb : C.g b <;> simp_all [rsB]
      · rw [hg] at hc
        cases hb : C.g b with
        | cells sz0 cs =>
          rw [hb] at hc
          simp only [rsB] at hc
          cases hc
          rw [hφ]
          rw [List.length_map, ne_eq, List.map_eq_nil_iff]
          exact h4 sz cs hb
        | hole => rw [hb] at hc; cases hc
        | dead => rw [hb] at hc; cases hc
        | map es => rw [hb] at hc; cases hc
    | none =>
      have hn := idx_none hi
      cases hb : C.g b with
      | cells sz cs =>
        simp only []
        split
        · rename_i ht
          obtain ⟨h5, h6⟩ := h4 sz cs hb
          refine ⟨_, c, rfl, h1, ?_⟩
          rcases Nat.eq_zero_or_pos n with hz | hpos
          · exact .inl hz
          obtain ⟨hne, arr, el, harr, hs⟩ := (h6 ht.2).resolve_left (fun z => by omega)
          obtain ⟨rfl, hs⟩ := hs.resolve_left (by omega)
          have hle : n * sz ≤ cap * sz := Nat.mul_le_mul_right sz h2
          have hp1 : 0 < n * sz := Nat.mul_pos hpos (Nat.pos_of_ne_zero ht.1)
          refine .inr ⟨?_, C.φ b, off, rfl, hfz b (by rw [hb]; exact live_cells hne) hn, ?_⟩
          · split
            · simp; omega
            · simp; omega
          split
          · exact re_cells hH hok hfz hb _ off (fun i x h => drop_at cs off i x h)
          · exact re_cells hH hok hfz hb _ off (fun i x h => by
              rw [List.getElem?_take] at h
              split at h
              · exact drop_at cs off i x h
              · cases h)
        · trivial
      | hole => trivial
      | dead => trivial
      | map es => trivial
  | .p b off len, v, hv => by
    obtain ⟨a, rfl, h3, h4⟩ := hv
    rw [rs]
    cases hi : L.idxOf? b with
    | some k =>
      have hk := idx_some hi
      have hφ : (C.re L t Bo1).φ k = C.φ b := by simp [Cx.re, List.getD_eq_getElem?_getD, hk]
      have hg : (C.re L t Bo1).g k = rsB L t C.g (C.g b) := get_rsG hk
      refine ⟨a, rfl, ?_, fun sz cs1 hc => ?_⟩
      · rw [hg]; cases hb : C.g b <;> simp_all [rsB]
      · rw [hg] at hc
        cases hb : C.g b with
        | cells sz0 cs =>
          rw [hb] at hc
          simp only [rsB] at hc
          cases hc
          rw [hφ]
          rw [List.length_map]
          exact h4 sz cs hb
        | hole => rw [hb] at hc; cases hc
        | dead => rw [hb] at hc; cases hc
        | map es => rw [hb] at hc; cases hc
    | none =>
      have hn := idx_none hi
      cases hb : C.g b with
      | cells sz cs =>
        simp only []
        split
        · rename_i ht
          obtain ⟨h5, h6⟩ := h4 sz cs hb
          obtain rfl := h6 ht
          rcases Classical.em (cs = []) with hne | hne
          · exact ⟨C.φ b, 0, by rw [Nat.zero_add], .inl (by rw [hne]; rfl)⟩
          exact ⟨C.φ b, 0, by rw [Nat.zero_add], .inr ⟨hfz b (by rw [hb]; exact live_cells hne) hn, re_cells hH hok hfz hb _ 0 (fun i x h => by rw [Nat.zero_add]; exact h)⟩⟩
        · trivial
      | hole => trivial
      | dead => trivial
      | map es => trivial
  | .mp b, v, hv => by
    obtain ⟨r, rfl, h3, h4⟩ := hv
    rw [rs]
    cases hi : L.idxOf? b with
    | some k =>
      have hk := idx_some hi
      have hφ : (C.re L t Bo1).φ k = C.φ b := by simp [Cx.re, List.getD_eq_getElem?_getD, hk]
      have hg : (C.re L t Bo1).g k = rsB L t C.g (C.g b) := get_rsG hk
      refine ⟨r, rfl, ?_, fun es1 hc => ?_⟩
      · rw [hg]; cases hb : C.g b <;> simp_all [rsB]
      · rw [hg] at hc
        cases hb : C.g b with
        | map es => rw [hφ]; exact h4 es hb
        | hole => rw [hb] at hc; cases hc
        | dead => rw [hb] at hc; cases hc
        | cells sz cs => rw [hb] at hc; cases hc
    | none => trivial
  | .agg cs, v, hv => by obtain ⟨vs, rfl, hv⟩ := hv; exact ⟨vs, rfl, re_vrs cs _ hv⟩
  | .tup cs, v, hv => by obtain ⟨vs, rfl, hv⟩ := hv; exact ⟨vs, rfl, re_vrs cs _ hv⟩
  | .fn f cs, v, hv => by obtain ⟨vs, rfl, hv⟩ := hv; exact ⟨vs, rfl, re_vrs cs _ hv⟩
  | .b _, _, hv => re_vd hH hok hfz hv
  | .i _ _, _, hv => re_vd hH hok hfz hv
  | .s _, _, hv => re_vd hH hok hfz hv
  | .fz .., _, hv => re_vd hH hok hfz hv
  | .rp .., _, hv => re_vd hH hok hfz hv
  | .nilS, _, hv => re_vd hH hok hfz hv
  | .nilP, _, hv => re_vd hH hok hfz hv
  | .err _, _, hv => re_vd hH hok hfz hv
  | .u, _, _ => trivial
theorem re_vrs : ∀ (as : List AV) (vs : List Value), VRs C as vs → VRs (C.re L t Bo1) (rss L t C.g as) vs
  | [], _, hv => hv
  | a :: as, vs, hv => by
    obtain ⟨v, vs', rfl, h1, h2⟩ := hv
    exact ⟨v, vs', rfl, re_vr a v h1, re_vrs as vs' h2⟩
end

theorem re_hr (hnd : L.Nodup) (hbo : ∀ b ∈ L, (C.g b).live = true → ¬ Bo1 (C.φ b)) (hbl : ∀ c, Bo1 c → c < C.w.heap.size) : HR (C.re L t Bo1) where
  bo := hbl
  gl i := re_vd hH hok hfz (hH.gl i)
  blk k := by
    cases hk : L[k]? with
    | none => rw [show (C.re L t Bo1).g k = .hole from get_rsG_none hk]; trivial
    | some b =>
      have hφ : (C.re L t Bo1).φ k = C.φ b := by simp [Cx.re, List.getD_eq_getElem?_getD, hk]
      have hm : b ∈ L := List.mem_of_getElem? hk
      have hb := hH.blk b
      rw [show (C.re L t Bo1).g k = rsB L t C.g (C.g b) from get_rsG hk]
      cases hg : C.g b with
      | hole => trivial
      | dead => trivial
      | cells sz cs =>
        rw [hg] at hb
        rcases hb with rfl | ⟨h1, h2, arr, el, harr, hlen, hc⟩
        · exact .inl rfl
        rcases Classical.em (cs = []) with hne | hne
        · exact .inl (by rw [hne]; rfl)
        refine .inr ⟨by rw [hφ]; exact h1, by rw [hφ]; exact hbo b hm (by rw [hg]; exact live_cells hne), arr, el, by rw [hφ]; exact harr, by simpa using hlen, fun i x hx => ?_⟩
        rw [List.getElem?_map] at hx
        cases hy : cs[i]? with
        | none => rw [hy] at hx; simp at hx
        | some y =>
          rw [hy] at hx
          simp at hx
          subst hx
          obtain ⟨v, hv, hr⟩ := hc i y hy
          exact ⟨v, hv, re_vr hH hok hfz y v hr⟩
      | map es =>
        rw [hg] at hb
        obtain ⟨h1, h2, ens, clock, h3, h4⟩ := hb
        exact ⟨by rw [hφ]; exact h1, by rw [hφ]; exact hbo b hm (by simp [hg, Blk.live]), ens, clock, by rw [hφ]; exact h3, h4⟩
  inj k k' hl hl' he := by
    cases hk : L[k]? with
    | none => rw [show (C.re L t Bo1).g k = .hole from get_rsG_none hk] at hl; cases hl
    | some b =>
      cases hk' : L[k']? with
      | none => rw [show (C.re L t Bo1).g k' = .hole from get_rsG_none hk'] at hl'; cases hl'
      | some b' =>
        rw [show (C.re L t Bo1).g k = _ from get_rsG hk, rsB_live] at hl
        rw [show (C.re L t Bo1).g k' = _ from get_rsG hk', rsB_live] at hl'
        simp only [Cx.re, List.getD_eq_getElem?_getD, hk, hk', Option.getD_some] at he
        have hbb := hH.inj b b' hl hl' he
        subst hbb
        exact nodup_at hnd hk hk'

end
end Go.Proofs.Ytdacfgclclpooaa
