/- The abstract operations tell the truth, 4: what writes memory or makes it. Conditions: the table of types fits the program. -/
import Derived.Test.YtdacfgclclpooaaCbH
namespace Go.Proofs.Ytdacfgclclpooaa
open Go Go.RowKit
set_option linter.unusedVariables false
set_option linter.unusedSimpArgs false
set_option linter.unusedSectionVars false

theorem setMany_len : ∀ (xs cs : List AV) (o : Nat), (setMany cs o xs).length = cs.length
  | [], _, _ => rfl
  | x :: xs, cs, o => by rw [setMany, setMany_len xs]; simp

theorem setMany_get : ∀ (xs cs : List AV) (o i : Nat), (setMany cs o xs)[i]? = if o ≤ i ∧ i < o + xs.length ∧ i < cs.length then xs[i - o]? else cs[i]?
  | [], cs, o, i => by rw [setMany, if_neg (by simp; omega)]
  | x :: xs, cs, o, i => by
    rw [setMany, setMany_get xs]
    by_cases h1 : i = o
    · subst h1
      rw [if_neg (by omega), List.getElem?_set_self']
      by_cases h2 : i < cs.length
      · rw [if_pos ⟨Nat.le_refl _, by simp, h2⟩]; simp [h2]
      · rw [if_neg (by omega)]; simp [List.getElem?_eq_none (Nat.le_of_not_lt h2)]
    · rw [List.getElem?_set_ne (fun e => h1 e.symm)]
      by_cases h2 : o + 1 ≤ i ∧ i < o + 1 + xs.length ∧ i < cs.length
      · rw [if_pos ⟨h2.1, h2.2.1, by simpa using h2.2.2⟩, if_pos ⟨by omega, by simp; omega, h2.2.2⟩, show i - o = (i - (o + 1)) + 1 by omega]; rfl
      · rw [if_neg (by simpa using h2), if_neg (by simp; omega)]

theorem setCells_get {c : Nat} {el : TypeId} {fr : Nat × Nat} : ∀ (vs : List Value) (o : Nat) (w : World) (arr : Array Value), w.heap[c]? = some (.cells arr el fr) →
    ∃ arr' : Array Value, (w.setCells c o vs).heap[c]? = some (.cells arr' el fr) ∧ arr'.size = arr.size ∧ ∀ i, arr'[i]? = if o ≤ i ∧ i < o + vs.length ∧ i < arr.size then vs[i - o]? else arr[i]?
  | [], o, w, arr, h => ⟨arr, h, rfl, fun i => by rw [if_neg (by simp; omega)]⟩
  | v :: vs, o, w, arr, h => by
    have h1 : (w.setCell ⟨c, o, none⟩ v).heap[c]? = some (.cells (arr.setIfInBounds o v) el fr) := by
      simp [World.setCell, Array.getElem?_modify, h]
    obtain ⟨arr', h2, h3, h4⟩ := setCells_get vs (o + 1) _ _ h1
    refine ⟨arr', h2, by simpa using h3, fun i => ?_⟩
    rw [h4 i]
    by_cases e : i = o
    · subst e
      rw [if_neg (by omega)]
      by_cases hb : i < arr.size
      · rw [if_pos ⟨Nat.le_refl _, by simp, hb⟩]; simp [hb]
      · rw [if_neg (by omega), Array.getElem?_eq_none (by simp; omega), Array.getElem?_eq_none (by omega)]
    · rw [Array.getElem?_setIfInBounds_ne (fun x => e x.symm)]
      by_cases h2 : o + 1 ≤ i ∧ i < o + 1 + vs.length ∧ i < arr.size
      · rw [if_pos ⟨h2.1, h2.2.1, by simpa using h2.2.2⟩, if_pos ⟨by omega, by simp; omega, h2.2.2⟩, show i - o = (i - (o + 1)) + 1 by omega]; rfl
      · rw [if_neg (by simpa using h2), if_neg (by simp; omega)]

theorem setCells_keep (c : Nat) : ∀ (vs : List Value) (o : Nat) (w : World), (w.setCells c o vs).os = w.os ∧ (w.setCells c o vs).tape = w.tape ∧ (w.setCells c o vs).output = w.output ∧
    (w.setCells c o vs).heap.size = w.heap.size ∧ ∀ c', c' ≠ c → (w.setCells c o vs).heap[c']? = w.heap[c']?
  | [], _, _ => ⟨rfl, rfl, rfl, rfl, fun _ _ => rfl⟩
  | v :: vs, o, w => by
    obtain ⟨h1, h2, h3, h4, h5⟩ := setCells_keep c vs (o + 1) (w.setCell ⟨c, o, none⟩ v)
    exact ⟨h1, h2, h3, by rw [World.setCells, h4]; simp, fun c' hc => by rw [World.setCells, h5 c' hc]; exact Below.heap_setCell _ _ _ _ hc⟩

theorem vrs_cat {C : Cx} {as bs : List AV} {us vs : List Value} (h : VRs C as us) (k : VRs C bs vs) : VRs C (as ++ bs) (us ++ vs) := by
  rw [vrs_iff] at *
  obtain ⟨h1, h2⟩ := h
  obtain ⟨k1, k2⟩ := k
  refine ⟨by simp [h1, k1], fun i x hx => ?_⟩
  by_cases hi : i < us.length
  · rw [List.getElem?_append_left (by omega)] at hx
    rw [List.getElem?_append_left hi]
    exact h2 i x hx
  · rw [List.getElem?_append_right (by omega)] at hx
    rw [List.getElem?_append_right (by omega)]
    rw [h1] at hx
    exact k2 _ x hx

section
variable {P : Program} {T : TT} (hT : TOk P T) {C : Cx} (hH : HR C) {o : Oper} {ρ : Operand → Value}
include hH

/-- Cells of an own block written in place, perhaps beyond what was told of them. -/
theorem write_own {b sz : Nat} (off : Nat) {cs cs' xs : List AV} {vs : List Value} (hg : C.g b = .cells sz cs) (hne : cs ≠ []) (hxs : VRs C xs vs) (hone : ∀ v ∈ vs, v.oneCell' = true)
    {arr : Array Value} {el : TypeId} (harr : C.w.heap[C.φ b]? = some (.cells arr el (0, 0))) (hin : off + vs.length ≤ arr.size)
    (hcs' : ∀ (i : Nat) x, cs'[i]? = some x → (off ≤ i ∧ i < off + xs.length ∧ xs[i - off]? = some x) ∨ (¬ (off ≤ i ∧ i < off + xs.length) ∧ cs[i]? = some x))
    (hlen : cs'.length ≤ arr.size) (hgrow : cs.length ≤ cs'.length) :
    (storeCells ⟨C.φ b, off, none⟩ vs).run P C.w = .ok () (C.w.setCells (C.φ b) off vs) ∧
    Le C ⟨upd1 C.φ b (C.φ b), upd1 C.g b (.cells sz cs'), C.Bo, C.G, C.w.setCells (C.φ b) off vs⟩ ∧ HR ⟨upd1 C.φ b (C.φ b), upd1 C.g b (.cells sz cs'), C.Bo, C.G, C.w.setCells (C.φ b) off vs⟩ ∧
    ∃ arr' : Array Value, (C.w.setCells (C.φ b) off vs).heap[C.φ b]? = some (.cells arr' el (0, 0)) ∧ arr'.size = arr.size := by
  have hl : vs.length = xs.length := ((vrs_iff _ _).1 hxs).1.symm
  obtain ⟨k1, k2, k3, k4, k5⟩ := setCells_keep (C.φ b) vs off C.w
  obtain ⟨arr', h1, h2, h3⟩ := setCells_get (el := el) (fr := (0, 0)) vs off C.w arr harr
  have h0 := hH.blk b
  rw [hg] at h0
  obtain ⟨hlt, hnb, arr0, el0, harr0, hlen0, hc0⟩ := h0.resolve_left hne
  rw [harr] at harr0
  cases harr0
  have hup := upd_block (C := C) hH (b := b) (blk := .cells sz cs') (C.w.setCells (C.φ b) off vs) (C.φ b) (.inl (by rw [hg]; exact live_cells hne)) k1 k2 k3 (Nat.le_of_eq k4.symm) (fun c _ hc => k5 c hc) (.inl rfl) (by rw [k4]; exact hlt)
    ⟨⟨cs, hg, by
        rcases Nat.lt_or_ge cs.length cs'.length with h | h
        · exact .inl h
        · exact .inr ⟨by omega, rfl, fun a e ha => by rw [harr] at ha; cases ha; exact ⟨arr', h1, h2⟩⟩⟩,
      arr', el, h1, by rw [h2]; exact hlen, fun i x hx => by
        rw [h3 i, hl]
        rcases hcs' i x hx with ⟨e1, e2, e3⟩ | ⟨e1, e2⟩
        · obtain ⟨v, hv, hr⟩ := ((vrs_iff _ _).1 hxs).2 _ _ e3
          exact ⟨v, by rw [if_pos ⟨e1, e2, by omega⟩]; exact hv, hr⟩
        · obtain ⟨v, hv, hr⟩ := hc0 i x e2
          exact ⟨v, by rw [if_neg (by omega)]; exact hv, hr⟩⟩
  refine ⟨?_, hup.1, hup.2, arr', h1, h2⟩
  have hrun := run_storeCells_cells (P := P) (C.φ b) off vs 0 C.w (fun j hj => by
      rw [cell_of_heap harr, Nat.add_zero]
      rw [Array.getElem?_eq_getElem (by omega)]; rfl) (fun j hj => by simp [World.frozen?, harr]) hone
  simpa using hrun

include hT

theorem aStore_ok {t : Nat} {x y : Operand} (ho : o.op = .store t x y) {a d : AV} (ha : VR C a (ρ x)) (hd : VR C d (ρ y))
    {c : Prop} {v : AV} {up : List (Nat × Blk)} (h : aStore T C.g t a d = some (c, v, up)) (hc : c) : Snd C ((execOp ρ o).run P C.w) v up := by
  unfold aStore at h
  split at h
  · rename_i ti b off len xs hti hxs
    obtain ⟨inf, dd, hi, hsz, _⟩ := tOf hT hti
    split at h
    · rename_i sz cs hg
      split at h
      · rename_i hcond
        cases h
        obtain ⟨hc1, hc2⟩ := hc
        have hcells := vr_cells hd hxs
        obtain ⟨ad, hρ, h3, h4⟩ := ha
        obtain ⟨_, h5⟩ := h4 sz cs hg
        obtain rfl := h5 hc1
        have h0 := hH.blk b
        rw [hg] at h0
        have hsize : (ρ y).cells.size = inf.size := by rw [hsz, ← hcond.1, ((vrs_iff _ _).1 hcells).1]; simp
        rcases h0 with rfl | ⟨hlt, hnb, arr, el, harr, hlen0, hc0⟩
        · have hz : xs = [] := List.eq_nil_of_length_eq_zero (by simp at hc2; omega)
          subst hz
          have hv0 : (ρ y).cells.toList = [] := List.eq_nil_of_length_eq_zero (by have := ((vrs_iff _ _).1 hcells).1; simpa using this.symm)
          have hsame : upd1 C.g b (.cells sz (setMany [] off [])) = C.g := by
            funext i
            by_cases e : i = b
            · subst e; rw [upd1_same, hg]; rfl
            · rw [upd1_ne _ _ e]
          have hCeq : (⟨C.φ, updL C.g [(b, .cells sz (setMany [] off []))], C.Bo, C.G, C.w⟩ : Cx) = C := by
            show (⟨C.φ, upd1 C.g b _, C.Bo, C.G, C.w⟩ : Cx) = C
            rw [hsame]
          refine ⟨.skip, C.w, ?_, undef, rfl, C.φ, ?_, ?_, ?_⟩
          · simp only [execOp, ho, hρ, Instr.storeAt, Instr.sureAddr, storeVar, Sem.run_bind, Sem.run_pure, Result.andThen_ok, run_sz hi, hsize, ne_eq, not_true_eq_false, if_false, hv0]
            rfl
          · exact ⟨#[], rfl, rfl⟩
          · rw [hCeq]; exact hH
          · rw [hCeq]; exact Le.refl C
        rcases Classical.em (cs = []) with hne | hne
        · subst hne
          have hz : xs = [] := List.eq_nil_of_length_eq_zero (by simp at hc2; omega)
          subst hz
          have hv0 : (ρ y).cells.toList = [] := List.eq_nil_of_length_eq_zero (by have := ((vrs_iff _ _).1 hcells).1; simpa using this.symm)
          have hsame : upd1 C.g b (.cells sz (setMany [] off [])) = C.g := by
            funext i
            by_cases e : i = b
            · subst e; rw [upd1_same, hg]; rfl
            · rw [upd1_ne _ _ e]
          have hCeq : (⟨C.φ, updL C.g [(b, .cells sz (setMany [] off []))], C.Bo, C.G, C.w⟩ : Cx) = C := by
            show (⟨C.φ, upd1 C.g b _, C.Bo, C.G, C.w⟩ : Cx) = C
            rw [hsame]
          refine ⟨.skip, C.w, ?_, undef, rfl, C.φ, ?_, ?_, ?_⟩
          · simp only [execOp, ho, hρ, Instr.storeAt, Instr.sureAddr, storeVar, Sem.run_bind, Sem.run_pure, Result.andThen_ok, run_sz hi, hsize, ne_eq, not_true_eq_false, if_false, hv0]
            rfl
          · exact ⟨#[], rfl, rfl⟩
          · rw [hCeq]; exact hH
          · rw [hCeq]; exact Le.refl C
        have hl := ((vrs_iff _ _).1 hcells).1
        have hone : ∀ v ∈ (ρ y).cells.toList, v.oneCell' = true := fun v hv => by
          obtain ⟨i, hi, he⟩ := List.getElem_of_mem hv
          have hix : i < xs.length := by rw [hl]; exact hi
          obtain ⟨u, hu, hr⟩ := ((vrs_iff _ _).1 hcells).2 i xs[i] (by simp)
          rw [List.getElem?_eq_getElem hi, he] at hu
          cases hu
          exact vr_scal hr (List.all_eq_true.1 hcond.2 _ (List.getElem_mem hix))
        obtain ⟨w1, w2, w3, arr', w4, w5⟩ := write_own (P := P) hH off (cs' := setMany cs off xs) hg hne hcells hone harr (by rw [← hl, hcond.1]; omega) (fun i z hz => by
            rw [setMany_get] at hz
            split at hz
            · rename_i hin; exact .inl ⟨hin.1, hin.2.1, hz⟩
            · rename_i hin
              refine .inr ⟨fun hh => hin ⟨hh.1, hh.2, ?_⟩, hz⟩
              rcases Nat.lt_or_ge i cs.length with h' | h'
              · exact h'
              · simp [List.getElem?_eq_none h'] at hz) (by rw [setMany_len]; exact hlen0) (by rw [setMany_len]; exact Nat.le_refl _)
        refine ⟨.skip, _, ?_, undef, rfl, _, ⟨#[], rfl, rfl⟩, w3, w2⟩
        simp only [execOp, ho, hρ, Instr.storeAt, Instr.sureAddr, storeVar, Sem.run_bind, Sem.run_pure, Result.andThen_ok, run_sz hi, hsize, ne_eq, not_true_eq_false, if_false, w1]
      · cases h
    · cases h
  · cases h

theorem aAlloc_ok {t : Nat} (ho : o.op = .alloc t) {id : Nat} (hid : C.g id = .hole)
    {c : Prop} {v : AV} {up : List (Nat × Blk)} (h : aAlloc T id t = some (c, v, up)) (hc : c) : Snd C ((execOp ρ o).run P C.w) v up := by
  unfold aAlloc at h
  split at h
  · rename_i ti hti
    obtain ⟨inf, dd, hi, hsz, _, ⟨z, hz, hzo⟩, _⟩ := tOf hT hti
    split at h
    · rename_i zs hzs
      cases h
      have hzr : VR C ti.zero z := by rw [← hzo]; exact ofV_vr C z
      have hcells := vr_cells hzr hzs
      obtain ⟨hl, h2⟩ := (vrs_iff _ _).1 hcells
      obtain ⟨hle, hhr⟩ := new_block hH hid (.cells ti.size zs) (.cells z.cells t (0, 0)) ⟨z.cells, t, rfl, by rw [hl]; simp, fun i x hx => by obtain ⟨u, hu, hr⟩ := h2 i x hx; exact ⟨u, by simpa using hu, hr⟩⟩
      refine ⟨.value (.pointer (some ⟨C.w.heap.size, 0, none⟩)), C.w.alloc (.cells z.cells t (0, 0)), ?_, _, rfl, _, ⟨_, rfl, ?_, fun sz cs hg => ?_⟩, hhr, hle⟩
      · simp only [execOp, ho, Instr.alloc, Sem.run_bind, run_zero hi hz, Result.andThen_ok, newVar, newRow, run_newObj, Sem.run_pure, World.alloc_eq]
      · show upd1 C.g id _ id ≠ _; rw [upd1_same]; simp
      · have hg' : upd1 C.g id (.cells ti.size zs) id = .cells sz cs := hg
        rw [upd1_same] at hg'; cases hg'
        exact ⟨Nat.le_refl _, fun _ => by show _ = (⟨upd1 C.φ id C.w.heap.size id, 0, none⟩ : Addr); rw [upd1_same]⟩
    · cases h
  · cases h

theorem aBox_ok {t : Nat} {x : Operand} (ho : o.op = .box t x) {a : AV} (ha : VR C a (ρ x)) {id : Nat} (hid : C.g id = .hole)
    {c : Prop} {v : AV} {up : List (Nat × Blk)} (h : aBox id a = some (c, v, up)) (hc : c) : Snd C ((execOp ρ o).run P C.w) v up := by
  unfold aBox at h
  split at h
  · rename_i zs hzs
    cases h
    have hcells := vr_cells ha hzs
    obtain ⟨hl, h2⟩ := (vrs_iff _ _).1 hcells
    obtain ⟨hle, hhr⟩ := new_block hH hid (.cells 1 zs) (.cells (ρ x).cells t (0, 0)) ⟨(ρ x).cells, t, rfl, by rw [hl]; simp, fun i y hy => by obtain ⟨u, hu, hr⟩ := h2 i y hy; exact ⟨u, by simpa using hu, hr⟩⟩
    refine ⟨.value (.pointer (some ⟨C.w.heap.size, 0, none⟩)), C.w.alloc (.cells (ρ x).cells t (0, 0)), ?_, _, rfl, _, ⟨_, rfl, ?_, fun sz cs hg => ?_⟩, hhr, hle⟩
    · simp only [execOp, ho, Instr.box, Sem.run_bind, Result.andThen_ok, newVar, newRow, run_newObj, Sem.run_pure, World.alloc_eq]
    · show upd1 C.g id _ id ≠ _; rw [upd1_same]; simp
    · have hg' : upd1 C.g id (.cells 1 zs) id = .cells sz cs := hg
      rw [upd1_same] at hg'; cases hg'
      exact ⟨Nat.le_refl _, fun _ => by show _ = (⟨upd1 C.φ id C.w.heap.size id, 0, none⟩ : Addr); rw [upd1_same]⟩
  · cases h

end
end Go.Proofs.Ytdacfgclclpooaa
