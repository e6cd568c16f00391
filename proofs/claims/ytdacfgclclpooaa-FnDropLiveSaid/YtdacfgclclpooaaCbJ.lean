/- The abstract operations tell the truth, 5: structs and slices that are built. Conditions: the table of types fits the program. -/
import Derived.Test.YtdacfgclclpooaaCbI
import Derived.Laws.Tables
namespace Go.Proofs.Ytdacfgclclpooaa
open Go Go.RowKit
set_option linter.unusedVariables false
set_option linter.unusedSimpArgs false
set_option linter.unusedSectionVars false

theorem zip_get (off : Nat) : ∀ (l : List Value) (k : Nat) (arr : Array Value), ((l.zipIdx k).foldl (fun cs p => cs.setIfInBounds (off + p.2) p.1) arr).size = arr.size ∧
    ∀ i, ((l.zipIdx k).foldl (fun cs p => cs.setIfInBounds (off + p.2) p.1) arr)[i]? = if off + k ≤ i ∧ i < off + k + l.length ∧ i < arr.size then l[i - (off + k)]? else arr[i]?
  | [], k, arr => ⟨rfl, fun i => by rw [if_neg (by simp; omega)]; rfl⟩
  | v :: l, k, arr => by
    obtain ⟨h1, h2⟩ := zip_get off l (k + 1) (arr.setIfInBounds (off + k) v)
    simp only [List.zipIdx_cons, List.foldl_cons]
    refine ⟨by rw [h1]; simp, fun i => ?_⟩
    rw [h2 i]
    by_cases e : i = off + k
    · subst e
      rw [if_neg (by omega)]
      by_cases hb : off + k < arr.size
      · rw [if_pos ⟨Nat.le_refl _, by simp, hb⟩]; simp [hb]
      · rw [if_neg (by omega), Array.getElem?_eq_none (by simp; omega), Array.getElem?_eq_none (by omega)]
    · rw [Array.getElem?_setIfInBounds_ne (fun x => e x.symm)]
      by_cases h3 : off + (k + 1) ≤ i ∧ i < off + (k + 1) + l.length ∧ i < arr.size
      · rw [if_pos ⟨h3.1, h3.2.1, by simpa using h3.2.2⟩, if_pos ⟨by omega, by simp; omega, h3.2.2⟩, show i - (off + k) = (i - (off + (k + 1))) + 1 by omega]; rfl
      · rw [if_neg (by simpa using h3), if_neg (by simp; omega)]

section
variable {P : Program} {C : Cx}

theorem fill_ok {place place' : Nat → Option (Nat × Nat)} (hp : ∀ i x, place i = some x → place' i = some x) : ∀ (parts : List (Nat × AV)) (vparts : List (Nat × Value)) (cs : List AV) (arr : Array Value) (cs' : List AV),
    VRs C cs arr.toList → parts.length = vparts.length → (∀ (i : Nat) p, parts[i]? = some p → ∃ q, vparts[i]? = some (p.1, q) ∧ VR C p.2 q) → fillAV place cs parts = some cs' →
    ∃ arr', Instr.fill place' arr vparts = some arr' ∧ VRs C cs' arr'.toList
  | [], vparts, cs, arr, cs', hc, hl, hps, h => by
    cases vparts with
    | nil => simp only [fillAV, Option.some.injEq] at h; subst h; exact ⟨arr, rfl, hc⟩
    | cons a b => simp at hl
  | (i, v) :: parts, vparts, cs, arr, cs', hc, hl, hps, h => by
    cases vparts with
    | nil => simp at hl
    | cons q vparts =>
      obtain ⟨u, hu, hr⟩ := hps 0 (i, v) rfl
      simp at hu
      subst hu
      simp only [fillAV] at h
      split at h
      · rename_i off size xs hpl hxs
        split at h
        · rename_i hcond
          have hcells := vr_cells hr hxs
          obtain ⟨hl1, hx⟩ := (vrs_iff _ _).1 hcells
          obtain ⟨hl2, hcx⟩ := (vrs_iff _ _).1 hc
          have hsz : u.cells.size = size := by rw [← hcond.1, hl1]; simp
          have harr : arr.size = cs.length := by rw [hl2]; simp
          obtain ⟨z1, z2⟩ := zip_get off u.cells.toList 0 arr
          have hfold : u.cells.zipIdx.foldl (fun cs (c, j) => cs.setIfInBounds (off + j) c) arr = (u.cells.toList.zipIdx 0).foldl (fun cs p => cs.setIfInBounds (off + p.2) p.1) arr := by
            rw [← Array.foldl_toList]; simp
          have hnew : VRs C (setMany cs off xs) (u.cells.zipIdx.foldl (fun cs (c, j) => cs.setIfInBounds (off + j) c) arr).toList := by
            rw [hfold, vrs_iff]
            refine ⟨by rw [setMany_len]; simp only [Array.length_toList]; rw [z1, harr], fun j x hj => ?_⟩
            rw [Array.getElem?_toList, z2 j]
            rw [setMany_get] at hj
            by_cases hin : off ≤ j ∧ j < off + xs.length ∧ j < cs.length
            · rw [if_pos hin] at hj
              rw [if_pos ⟨by omega, by rw [← hl1]; omega, by omega⟩]
              exact hx _ _ hj
            · rw [if_neg hin] at hj
              rw [if_neg (by rw [← hl1, harr]; omega)]
              have := hcx _ _ hj
              rwa [Array.getElem?_toList] at this
          obtain ⟨arr', h1, h2⟩ := fill_ok hp parts vparts _ _ cs' hnew (by simpa using hl) (fun j p hj => by simpa using hps (j + 1) p (by simpa using hj)) h
          refine ⟨arr', ?_, h2⟩
          rw [Instr.fill, hp _ _ hpl]
          simp only []
          rw [if_neg (by rw [hsz, harr]; simp; omega)]
          exact h1
        · cases h
      · cases h

variable {T : TT} (hT : TOk P T) (hH : HR C) {o : Oper} {ρ : Operand → Value}
include hT

theorem places_ok : ∀ (fs : List Field) (pl : List (Nat × Nat)), placesOf T (fs.map fun f => (f.offset, f.type)) = some pl → ∀ w, (fs.mapM (fun f => do pure (f.offset, ← sizeOf f.type)) : Sem (List (Nat × Nat))).run P w = .ok pl w
  | [], pl, h, w => by simp only [List.map_nil, placesOf, Option.some.injEq] at h; subst h; rfl
  | f :: fs, pl, h, w => by
    simp only [List.map_cons, placesOf] at h
    split at h
    · rename_i fi l hf hl
      cases h
      obtain ⟨inf, d, hi, hsz, _⟩ := tOf hT hf
      have ih := places_ok fs l hl w
      simp only [List.mapM_cons, Sem.run_bind, run_sz hi, Result.andThen_ok, Sem.run_pure, hsz]
      rw [ih]
      rfl
    · cases h

include hH

theorem aBuild_ok {t : Nat} {parts : Array (Nat × Operand)} (ho : o.op = .build t parts) {ev : Operand → AV} (hev : ∀ p ∈ parts.toList, VR C (ev p.2) (ρ p.2))
    {c : Prop} {v : AV} {up : List (Nat × Blk)} (h : aBuild T t (parts.toList.map fun p => (p.1, ev p.2)) = some (c, v, up)) (hc : c) : Snd C ((execOp ρ o).run P C.w) v up := by
  unfold aBuild at h
  split at h
  · rename_i sz by_ ag z fs hti
    obtain ⟨inf, d, hi, hsz, _, ⟨zv, hz, hzo⟩, hu, htd, _⟩ := tOf hT hti
    obtain ⟨fs', rfl, hfs⟩ := tdb_struct htd
    split at h
    · rename_i pl hpl
      split at h
      · rename_i cs hcs
        cases h
        rw [← hfs] at hpl
        have hpr := fun w => places_ok hT fs'.toList pl hpl w
        have hzr : VR C (.agg z) zv := by have := ofV_vr C zv; rwa [hzo] at this
        obtain ⟨zs, rfl, hzs⟩ := hzr
        obtain ⟨arr', h1, h2⟩ := fill_ok (place' := fun i => pl.toArray[i]?) (fun i x hx => by simpa using hx) _ ((parts.map fun (i, x) => (i, ρ x)).toList) z zs cs hzs (by simp) (fun i p hp => by
            rw [List.getElem?_map] at hp
            cases hq : parts.toList[i]? with
            | none => rw [hq] at hp; simp at hp
            | some q =>
              rw [hq] at hp
              simp at hp
              subst hp
              exact ⟨ρ q.2, by rw [Array.getElem?_toList] at hq ⊢; simp [hq], hev q (List.mem_of_getElem? hq)⟩) hcs
        refine snd_pure hH (u := .agg arr') ?_ ⟨arr', rfl, h2⟩
        have hm : ∀ w, (fs'.mapM (fun f => do pure (f.offset, ← sizeOf f.type)) : Sem (Array (Nat × Nat))).run P w = .ok pl.toArray w := fun w => by
          rw [Array.mapM_eq_mapM_toList, Sem.run_map, hpr w]; rfl
        simp only [execOp, ho, Instr.build, Sem.run_bind, run_zero hi hz, Result.andThen_ok, run_und hu, hm, Value.cells, h1, Sem.run_pure]
      · cases h
    · cases h
  · cases h

omit hT hH in
theorem rep_get (z : List AV) : ∀ (n i : Nat), (repCells n z)[i]? = if i < n * z.length then z[i % z.length]? else none
  | 0, i => by simp [repCells]
  | n + 1, i => by
    have ih := rep_get z n
    simp only [repCells, List.replicate_succ, List.flatten_cons] at ih ⊢
    by_cases h : i < z.length
    · rw [List.getElem?_append_left h, if_pos (by rw [Nat.succ_mul]; omega), Nat.mod_eq_of_lt h]
    · rw [List.getElem?_append_right (by omega), ih (i - z.length)]
      have e : (n + 1) * z.length = n * z.length + z.length := Nat.succ_mul _ _
      by_cases h2 : i - z.length < n * z.length
      · rw [if_pos h2, if_pos (by omega), ← Nat.mod_eq_sub_mod (by omega)]
      · rw [if_neg h2, if_neg (by omega)]

omit hT hH in
theorem rep_len (z : List AV) (n : Nat) : (repCells n z).length = n * z.length := by
  simp [repCells]

theorem aBuildSlice_ok {t n : Nat} {parts : Array (Nat × Operand)} (ho : o.op = .buildSlice t n parts) {ev : Operand → AV} (hev : ∀ p ∈ parts.toList, VR C (ev p.2) (ρ p.2)) {id : Nat} (hid : C.g id = .hole)
    {c : Prop} {v : AV} {up : List (Nat × Blk)} (h : aBuildSlice T id t n (parts.toList.map fun p => (p.1, ev p.2)) = some (c, v, up)) (hc : c) : Snd C ((execOp ρ o).run P C.w) v up := by
  unfold aBuildSlice at h
  split at h
  · rename_i sz by_ ag z e hti
    obtain ⟨inf, d, _, _, _, _, hu, htd, _⟩ := tOf hT hti
    obtain rfl := tdb_slice htd
    split at h
    · rename_i ei he
      obtain ⟨inf', d', hi', hsz', _, ⟨zv, hz, hzo⟩, _⟩ := tOf hT he
      split at h
      · rename_i zc hzc
        split at h
        · rename_i hcond
          split at h
          · rename_i cs hcs
            cases h
            have hzr : VR C ei.zero zv := by rw [← hzo]; exact ofV_vr C zv
            have hzcells := vr_cells hzr hzc
            obtain ⟨hzl, hzx⟩ := (vrs_iff _ _).1 hzcells
            have hzsz : zv.cells.size = ei.size := by rw [← hcond.2.1, hzl]; simp
            have key : ∃ arr0 : Array Value, (do let zero ← (if n * ei.size = 0 then pure #[] else do pure (← zeroValue e).cells : Sem (Array Value)); pure ((Array.range (n * ei.size)).map (zero[· % zero.size]!)) : Sem (Array Value)).run P C.w = .ok arr0 C.w ∧ VRs C (repCells n zc) arr0.toList := by
              by_cases h0 : n * ei.size = 0
              · refine ⟨#[], ?_, ?_⟩
                · simp only [h0, if_true, Sem.run_bind, Sem.run_pure, Result.andThen_ok]
                  simp
                · have : repCells n zc = [] := List.eq_nil_of_length_eq_zero (by rw [rep_len, hcond.2.1, h0])
                  rw [this]; rfl
              · refine ⟨(Array.range (n * ei.size)).map (zv.cells[· % zv.cells.size]!), ?_, ?_⟩
                · simp only [h0, if_false, Sem.run_bind, run_zero hi' hz, Sem.run_pure, Result.andThen_ok]
                · rw [vrs_iff]
                  refine ⟨by rw [rep_len, hcond.2.1]; simp, fun i x hx => ?_⟩
                  rw [rep_get] at hx
                  split at hx
                  · rename_i hlt
                    obtain ⟨u, hu1, hu2⟩ := hzx _ _ hx
                    refine ⟨u, ?_, hu2⟩
                    rw [hcond.2.1] at hlt hu1
                    rw [Array.getElem?_toList] at hu1 ⊢
                    rw [Array.getElem?_map, Array.getElem?_range]
                    rw [if_pos hlt]
                    simp only [Option.map_some, hzsz]
                    rw [getElem!_def, hu1]
                  · cases hx
            obtain ⟨arr0, hrun, hv0⟩ := key
            obtain ⟨arr', h1, h2⟩ := fill_ok (place' := fun i => some (i * ei.size, ei.size)) (fun i x hx => hx) _ ((parts.map fun (i, x) => (i, ρ x)).toList) _ arr0 cs hv0 (by simp) (fun i p hp => by
                rw [List.getElem?_map] at hp
                cases hq : parts.toList[i]? with
                | none => rw [hq] at hp; simp at hp
                | some q =>
                  rw [hq] at hp
                  simp at hp
                  subst hp
                  exact ⟨ρ q.2, by rw [Array.getElem?_toList] at hq ⊢; simp [hq], hev q (List.mem_of_getElem? hq)⟩) hcs
            obtain ⟨hl2, hx2⟩ := (vrs_iff _ _).1 h2
            have hlen : cs.length = n * ei.size := by
              have : ∀ (parts : List (Nat × AV)) (cs0 cs1 : List AV), fillAV (fun i => some (i * ei.size, ei.size)) cs0 parts = some cs1 → cs1.length = cs0.length := by
                intro parts
                induction parts with
                | nil => intro a b h; simp only [fillAV, Option.some.injEq] at h; rw [h]
                | cons p r ih =>
                  intro a b h
                  obtain ⟨i, v⟩ := p
                  simp only [fillAV] at h
                  split at h
                  · split at h
                    · rw [ih _ _ h, setMany_len]
                    · cases h
                  · cases h
              rw [this _ _ _ hcs, rep_len, hcond.2.1]
            obtain ⟨hle, hhr⟩ := new_block hH hid (.cells ei.size cs) (.cells arr' e (0, 0)) ⟨arr', e, rfl, by rw [hl2]; simp, fun i x hx => by obtain ⟨u, hu, hr⟩ := hx2 i x hx; exact ⟨u, by simpa using hu, hr⟩⟩
            refine ⟨.value (.slice (some ⟨C.w.heap.size, 0, none⟩) n n), C.w.alloc (.cells arr' e (0, 0)), ?_, _, rfl, _, ⟨_, _, rfl, Nat.le_refl _, Nat.le_refl _, ?_, fun sz cs1 hg => ?_⟩, hhr, hle⟩
            · have hnl : ¬ n * ei.size > 2 ^ 24 := by have := hcond.1; omega
              have hrun' := hrun
              by_cases h0 : n * ei.size = 0
              · simp only [h0, if_true, Sem.run_bind, Sem.run_pure, Result.andThen_ok] at hrun'
                injection hrun' with e1
                simp only [execOp, ho, Instr.buildSlice, Sem.run_bind, Result.andThen_ok, run_und hu, run_sz hi', hsz', if_neg (show ¬ ((0 : Nat) > 2 ^ 24) by decide), h0, if_true, Sem.run_pure, e1]
                simp only [h1, newRow, Sem.run_bind, run_newObj, Result.andThen_ok, Sem.run_pure, World.alloc_eq]
              · simp only [h0, if_false, Sem.run_bind, run_zero hi' hz, Sem.run_pure, Result.andThen_ok] at hrun'
                simp only [execOp, ho, Instr.buildSlice, Sem.run_bind, Result.andThen_ok, run_und hu, run_sz hi', hsz', hnl, if_false, h0, run_zero hi' hz, Sem.run_pure]
                injection hrun' with e1
                rw [e1]
                simp only [h1, newRow, Sem.run_bind, run_newObj, Result.andThen_ok, Sem.run_pure, World.alloc_eq]
            · show upd1 C.g id _ id ≠ _; rw [upd1_same]; simp
            · have hg' : upd1 C.g id (.cells ei.size cs) id = .cells sz cs1 := hg
              rw [upd1_same] at hg'; cases hg'
              refine ⟨by omega, fun _ => ?_⟩
              rcases Classical.em (cs = []) with hne | hne
              · refine .inl ⟨hne, ?_⟩
                have h9 : n * ei.size = 0 := by rw [← hlen, hne]; rfl
                exact (Nat.mul_eq_zero.1 h9).resolve_right hcond.2.2
              refine .inr ⟨hne, arr', e, ?_, .inr ⟨?_, ?_⟩⟩
              · show (C.w.alloc _).heap[upd1 C.φ id C.w.heap.size id]? = _
                rw [upd1_same]; show (C.w.heap.push _)[C.w.heap.size]? = _; simp
              · show _ = some (⟨upd1 C.φ id C.w.heap.size id, 0, none⟩ : Addr); rw [upd1_same]
              · have : arr'.size = cs.length := by rw [hl2]; simp
                omega
          · cases h
        · cases h
      · cases h
    · cases h
  · cases h

end
end Go.Proofs.Ytdacfgclclpooaa
