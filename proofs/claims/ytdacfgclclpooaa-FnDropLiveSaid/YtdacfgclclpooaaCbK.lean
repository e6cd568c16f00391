/- The abstract operations tell the truth, 6: make, append, maps, conversions. Conditions: the table of types fits the program. -/
import Derived.Test.YtdacfgclclpooaaCbJ
namespace Go.Proofs.Ytdacfgclclpooaa
open Go Go.RowKit
set_option linter.unusedVariables false
set_option linter.unusedSimpArgs false
set_option linter.unusedSectionVars false

section
variable {P : Program} {T : TT} (hT : TOk P T) {C : Cx} (hH : HR C) {o : Oper} {ρ : Operand → Value}

theorem wrap_in {n : Int} (h0 : -9223372036854775808 ≤ n) (h1 : n < 9223372036854775808) : IntKind.wrap .i64 n = n := by
  have e : IntKind.wrap .i64 n = (if n % 18446744073709551616 ≥ 9223372036854775808 then n % 18446744073709551616 - 18446744073709551616 else n % 18446744073709551616) := by
    unfold IntKind.wrap
    simp [IntKind.bits, IntKind.signed]
  rw [e]; split <;> omega

theorem growBy_le (n : Nat) : ∀ (r c : Nat), c ≤ 2 * n + 768 → Builtin.growBy n r c ≤ 2 * n + 768
  | 0, c, h => h
  | r + 1, c, h => by
    rw [Builtin.growBy]
    split
    · exact h
    · exact growBy_le n r _ (by omega)

theorem nextcap_le {n c : Nat} (h : c < n) : Builtin.nextslicecap n c ≤ 2 * n + 768 := by
  unfold Builtin.nextslicecap
  split
  · omega
  · split
    · omega
    · exact growBy_le n 4 c (by omega)

theorem zeros_size (z : Array Value) (n : Nat) : (Builtin.zeroCells z n).size = n * z.size := by simp [Builtin.zeroCells]

theorem run_cells {w : World} {c off : Nat} {arr : Array Value} {el fr} (harr : w.heap[c]? = some (.cells arr el fr)) (n : Nat) (h : off + n ≤ arr.size) :
    (loadCells ⟨c, off, none⟩ n).run P w = .ok (arr.extract off (off + n)) w := by
  have := run_loadCells_list (P := P) w ⟨c, off, none⟩ (arr.extract off (off + n)).toList (fun j v hj => by
    rw [add_off, cell_of_heap harr]
    rw [Array.getElem?_toList, Array.getElem?_extract] at hj
    split at hj
    · exact hj
    · cases hj)
  rw [Array.toArray_toList, Array.length_toList, Array.size_extract, show min (off + n) arr.size - off = n by omega] at this
  exact this

include hH

/-- What is appended. -/
theorem appSrc_ok {sz b : Nat} {a : AV} {v : Value} (ha : VR C a v) {c : Prop} {m : Nat} {ys : List AV} (h : appSrc C.g sz b a = some (c, m, ys)) (hc : c) :
    ∃ vs : List Value, (∀ w, (Builtin.lenOf v).run P w = .ok m w) ∧ ys.length = m * sz ∧ VRs C ys vs ∧ ∀ w : World, w.heap = C.w.heap → (Builtin.firstCells sz m v).run P w = .ok vs.toArray w := by
  unfold appSrc at h
  split at h
  · rename_i t m' cs
    cases h
    obtain ⟨ao, cc, rfl, h1, h2⟩ := ha
    rcases h2 with rfl | ⟨h2, blk, off, rfl, hok, hm⟩
    · have : ys = [] := List.eq_nil_of_length_eq_zero (by rw [hc]; simp)
      subst this
      refine ⟨[], fun _ => rfl, hc, rfl, fun w _ => ?_⟩
      cases ao with
      | none => rfl
      | some ad => simp [Builtin.firstCells, loadCells, loadCellsFrom]
    · have hex : ∃ vs : List Value, VRs C ys vs ∧ ∀ j u, vs[j]? = some u → C.w.cell? ⟨blk, off + j, none⟩ = some u := by
        rw [vdm_iff] at hm
        clear hc h2
        induction ys generalizing off with
        | nil => exact ⟨[], rfl, fun j u hj => by simp at hj⟩
        | cons y ys ih =>
          obtain ⟨u, hu, hd⟩ := hm 0 y rfl
          obtain ⟨vs, h3, h4⟩ := ih (off + 1) (fun i x hx => by
            obtain ⟨u', h5, h6⟩ := hm (i + 1) x (by simpa using hx)
            exact ⟨u', by rw [← h5]; congr 2; omega, h6⟩)
          refine ⟨u :: vs, ⟨u, vs, rfl, rdAt_ok.vd_vr hd, h3⟩, fun j u' hj => ?_⟩
          cases j with
          | zero => simp at hj; subst hj; simpa using hu
          | succ j => have := h4 j u' (by simpa using hj); rw [← this]; congr 2; omega
      obtain ⟨vs, h3, h4⟩ := hex
      have hl := ((vrs_iff _ _).1 h3).1
      refine ⟨vs, fun _ => rfl, hc, h3, fun w hw => ?_⟩
      have hrun := run_loadCells_list (P := P) w ⟨blk, off, none⟩ vs (fun j u hu => by rw [add_off, ← h4 j u hu]; exact World.cell?_of_block (w := C.w) (by rw [hw]))
      rw [← hl, hc] at hrun
      simp only [Builtin.firstCells]; exact hrun
  · cases h
    rw [show v = .slice none 0 0 from ha]
    exact ⟨[], fun _ => rfl, by simp, rfl, fun w _ => by simp [Builtin.firstCells]⟩
  · rename_i b' off m' cap
    split at h
    · cases h
    · rename_i hne
      split at h
      · rename_i sz' cs hg
        split at h
        · rename_i hcond
          cases h
          obtain ⟨rfl, rfl⟩ := hcond
          obtain ⟨rfl, hct⟩ := hc
          obtain ⟨ao, cc, rfl, h1, h2, h3, h4⟩ := ha
          obtain ⟨h5, h6⟩ := h4 _ _ hg
          rcases h6 (by omega) with ⟨rfl, z2⟩ | ⟨hne, arr, el, harr, h7⟩
          · have hm0 : m = 0 := by omega
            subst hm0
            refine ⟨[], fun _ => rfl, by simp, rfl, fun w _ => ?_⟩
            cases ao with
            | none => simp [Builtin.firstCells]
            | some ad => simp [Builtin.firstCells, loadCells, loadCellsFrom]
          have h0 := hH.blk b'
          rw [hg] at h0
          obtain ⟨hlt, hnb, arr', el', harr', hlen, hcc⟩ := h0.resolve_left hne
          rw [harr] at harr'
          cases harr'
          refine ⟨(arr.extract 0 (0 + m * sz')).toList, fun _ => rfl, hct.symm, ?_, fun w hw => ?_⟩
          · rw [vrs_iff]
            refine ⟨by simp; omega, fun i x hx => ?_⟩
            obtain ⟨u, hu, hr⟩ := hcc i x hx
            have hi : i < ys.length := by
              rcases Nat.lt_or_ge i ys.length with h' | h'
              · exact h'
              · simp [List.getElem?_eq_none h'] at hx
            refine ⟨u, ?_, hr⟩
            rw [Array.getElem?_toList, Array.getElem?_extract, if_pos (by omega)]
            simpa using hu
          · rcases h7 with h7 | ⟨rfl, h7⟩
            · have hm0 : m = 0 := by omega
              subst hm0
              cases ao with
              | none => simp [Builtin.firstCells]
              | some ad => simp [Builtin.firstCells, loadCells, loadCellsFrom]
            · simp only [Builtin.firstCells]
              rw [run_cells (by rw [hw]; exact harr) (m * sz') (by omega), Array.toArray_toList]
        · cases h
      · cases h
  · cases h

include hT

theorem aAppend_ok {cl : Call} {st xt : Nat} {x y : Operand} (ho : o.op = .call cl) (hcl : cl.callee = .builtin .append) (harg : cl.args.toList = [x, y]) (hty : cl.argTypes.toList = [st, xt])
    {a d : AV} (ha : VR C a (ρ x)) (hd : VR C d (ρ y)) {id : Nat} (hid : C.g id = .hole) {c : Prop} {v : AV} {up : List (Nat × Blk)} (h : aAppend T C.g id st xt a d = some (c, v, up)) (hc : c) :
    Snd C ((execOp ρ o).run P C.w) v up := by
  have hargs : cl.args = #[x, y] := by rw [← Array.toArray_toList (xs := cl.args), harg]
  have hts : cl.argTypes = #[st, xt] := by rw [← Array.toArray_toList (xs := cl.argTypes), hty]
  have key : ∀ (r : Value) (w' : World), (Builtin.append_ #[st, xt] o.type #[ρ x, ρ y]).run P C.w = .ok r w' → (execOp ρ o).run P C.w = .ok (.value r) w' := fun r w' hn => by
    simp only [execOp, ho, resolve, hcl, hargs, hts, List.map_toArray, List.map_cons, List.map_nil, Sem.run_bind, Sem.run_pure, Result.andThen_ok, invoke, builtin, hn]
  unfold aAppend at h
  split at h
  · rename_i sz0 by_ ag z e hti
    obtain ⟨inf, dd, _, _, _, _, hu, htd, _⟩ := tOf hT hti
    obtain rfl := tdb_slice htd
    split at h
    · rename_i ei sz1 by1 ag1 z1 e1 he htx
      obtain ⟨ei', d', hi', hsz', hby', ⟨zv, hz, hzo⟩, _⟩ := tOf hT he
      obtain ⟨infx, dx, _, _, _, _, hux, htdx, _⟩ := tOf hT htx
      obtain rfl := tdb_slice htdx
      split at h
      · rename_i hcond
        obtain ⟨hb1, hb2, hb3, hb4⟩ := hcond
        have hzsz : zv.cells.size = ei.size := by
          unfold zOk at hb4
          split at hb4
          · rename_i zc hzc
            have hzr : VR C ei.zero zv := by rw [← hzo]; exact ofV_vr C zv
            have := ((vrs_iff _ _).1 (vr_cells hzr hzc)).1
            simp at this hb4
            omega
          · cases hb4
        -- what the model's append does, told once
        have app : ∀ (base : Option Addr) (n cap m : Nat) (vs : List Value), ρ x = .slice base n cap → (∀ w, (Builtin.lenOf (ρ y)).run P w = .ok m w) → (∀ w : World, w.heap = C.w.heap → (Builtin.firstCells ei.size m (ρ y)).run P w = .ok vs.toArray w) →
            (n + m ≤ cap → ∀ w', (match base with | some a => (storeCells (a.add (n * ei.size)) vs).run P C.w | none => .ok () C.w) = .ok () w' → (Builtin.append_ #[st, xt] o.type #[ρ x, ρ y]).run P C.w = .ok (.slice base (n + m) cap) w') ∧
            (cap < n + m → n + m ≤ LIM → ∀ olds : Array Value, (Builtin.firstCells ei.size n (ρ x)).run P C.w.drew = .ok olds C.w.drew →
              ∃ newCap, n + m ≤ newCap ∧ (Builtin.append_ #[st, xt] o.type #[ρ x, ρ y]).run P C.w = .ok (.slice (some ⟨C.w.heap.size, 0, none⟩) (n + m) newCap)
                (C.w.drew.alloc (.cells (olds ++ vs.toArray ++ Builtin.zeroCells zv.cells (newCap - (n + m))) e (0, 0)))) := by
          intro base n cap m vs hx hlen hfirst
          have hf1 := hfirst C.w rfl
          have hf2 := hfirst C.w.drew rfl
          have hl1 := hlen C.w
          constructor
          · intro hle w' hst
            cases base with
            | none =>
              injection hst with _ hw'
              subst hw'
              simp [Builtin.append_, run_und hu, hx, run_sz hi', hsz', run_und hux, hl1, hle, hf1]
            | some ad =>
              simp only at hst
              simp [Builtin.append_, run_und hu, hx, run_sz hi', hsz', run_und hux, hl1, hle, hf1, hst]
          · intro hlt hlim olds hold
            have hnc := nextcap_le (n := n + m) (c := cap) hlt
            have hlim' : n + m ≤ 4294967296 := hlim
            have hbig : ¬ (Builtin.nextslicecap (n + m) cap * ei.bytes > 2 ^ 48) := by
              have h1 : Builtin.nextslicecap (n + m) cap ≤ 8589935360 := by omega
              have h2 := Nat.mul_le_mul h1 hb1
              have h3 : 8589935360 * 4096 ≤ 2 ^ 48 := by decide
              omega
            have hb0 : ¬ (ei.bytes = 0) := hb2
            refine ⟨n + m + C.w.tape C.w.drawn (.appendCap (n + m) cap e) % (2 ^ 63 - (n + m)), by omega, ?_⟩
            have hle : ¬ (n + m ≤ cap) := by omega
            rw [hx] at hold
            simp only [Builtin.append_, List.getElem?_toArray, List.getElem?_cons_zero, List.getElem?_cons_succ, Sem.run_bind, run_und hu, Result.andThen_ok, hx, run_sz hi', hsz', run_und hux, Sem.run_pure, hl1]
            simp only [Bool.false_eq_true, if_false, hl1, Result.andThen_ok, hle, Sem.run_bind, run_inf hi', hby', hb0, or_self, and_false, Sem.run_pure, hbig, run_choose, Question.forced, Question.cut, World.drew_eq, run_askRoom, hold, Bool.not_false, if_true, hf2, run_zero hi' hz, newRow, run_newObj, World.alloc_eq]
            rfl
        split at h
        · rename_i b off n cap
          split at h
          · rename_i sz cs hg
            split at h
            · rename_i hcond2
              obtain ⟨rfl, rfl⟩ := hcond2
              split at h
              · rename_i c' m ys hsrc
                by_cases hnc : n = cap
                · rw [if_pos hnc] at h
                  cases h
                  obtain ⟨hc1, rfl, hc2, hc3, hc4⟩ := hc
                  obtain ⟨vs, hlen, hyl, hys, hfirst⟩ := appSrc_ok (P := P) hH hd hsrc hc1
                  obtain ⟨base, cc, hx, h1, _, h3, h4⟩ := ha
                  obtain ⟨h5, h6⟩ := h4 _ _ hg
                  have h6' := h6 (by omega)
                  obtain ⟨app1, app2⟩ := app base n cc m vs hx hlen hfirst
                  have hvl : vs.length = m * ei.size := by rw [← hyl]; exact ((vrs_iff _ _).1 hys).1.symm
                  have hvall : ∀ u ∈ vs, u.oneCell' = true := fun u hu' => by
                    obtain ⟨i, hi, he'⟩ := List.getElem_of_mem hu'
                    have hix : i < ys.length := by rw [hyl, ← hvl]; exact hi
                    obtain ⟨u', hu2, hr⟩ := ((vrs_iff _ _).1 hys).2 i ys[i] (by simp)
                    rw [List.getElem?_eq_getElem hi, he'] at hu2
                    cases hu2
                    exact vr_scal hr (List.all_eq_true.1 hc4 _ (List.getElem_mem hix))
                  have e0 : (n + m) * ei.size = n * ei.size + m * ei.size := Nat.add_mul _ _ _
                  have h0 := hH.blk b
                  rw [hg] at h0
                  have h7 : (cs = [] ∧ cc = 0) ∨ (cs ≠ [] ∧ ∃ arr el, C.w.heap[C.φ b]? = some (.cells arr el (0, 0)) ∧ base = some ⟨C.φ b, 0, none⟩ ∧ 0 + cc * ei.size ≤ arr.size ∧ cs.length ≤ arr.size ∧
                      ∀ (i : Nat) x, cs[i]? = some x → ∃ v, arr[i]? = some v ∧ VR C x v) := by
                    rcases h6' with h6' | ⟨hne, arr, el, harr, h7⟩
                    · exact .inl h6'
                    · obtain ⟨hlt, hnb, arr0, el0, harr0, hlen0, hcc0⟩ := h0.resolve_left hne
                      rw [harr] at harr0
                      cases harr0
                      refine .inr ⟨hne, arr, el, harr, ?_⟩
                      rcases h7 with h7 | ⟨h7, h8⟩
                      · have hn0 : n = 0 := by omega
                        subst hn0
                        exact absurd (List.eq_nil_of_length_eq_zero (by omega)) hne
                      · exact ⟨h7, h8.1, hlen0, hcc0⟩
                  rcases Nat.lt_or_ge cc (n + m) with hgrow | hroom
                  · -- a new row
                    have hm0 : 0 < m := by omega
                    have hold : ∃ olds : Array Value, (Builtin.firstCells ei.size n (ρ x)).run P C.w.drew = .ok olds C.w.drew ∧ VRs C cs olds.toList := by
                      rcases h7 with ⟨rfl, h7⟩ | ⟨_, arr, el, harr, rfl, h7, hlen0, hcc0⟩
                      · have hn0 : n = 0 := by omega
                        subst hn0
                        refine ⟨#[], ?_, rfl⟩
                        rw [hx]
                        cases base with
                        | none => simp [Builtin.firstCells]
                        | some ad => simp [Builtin.firstCells, loadCells, loadCellsFrom]
                      · have hcn : n * ei.size ≤ cc * ei.size := Nat.mul_le_mul_right _ h1
                        refine ⟨arr.extract 0 (0 + n * ei.size), ?_, ?_⟩
                        · rw [hx]
                          simp only [Builtin.firstCells]
                          exact run_cells (w := C.w.drew) harr (n * ei.size) (by omega)
                        · rw [vrs_iff]
                          refine ⟨by simp; omega, fun i x' hx' => ?_⟩
                          obtain ⟨u, hu', hr⟩ := hcc0 i x' hx'
                          have hi : i < cs.length := by
                            rcases Nat.lt_or_ge i cs.length with h' | h'
                            · exact h'
                            · simp [List.getElem?_eq_none h'] at hx'
                          exact ⟨u, by rw [Array.getElem?_toList, Array.getElem?_extract, if_pos (by omega)]; simpa using hu', hr⟩
                    obtain ⟨olds, hold1, hold2⟩ := hold
                    obtain ⟨newCap, hnc, hrun⟩ := app2 hgrow hc3 olds hold1
                    have hall := vrs_cat hold2 hys
                    obtain ⟨hal, hax⟩ := (vrs_iff _ _).1 hall
                    have hold3 := ((vrs_iff _ _).1 hold2).1
                    generalize hrow : olds ++ vs.toArray ++ Builtin.zeroCells zv.cells (newCap - (n + m)) = row at hrun
                    have hrs : row.size = newCap * ei.size := by
                      rw [← hrow]
                      have e1 : (newCap - (n + m)) * ei.size + (n + m) * ei.size = newCap * ei.size := by rw [← Nat.add_mul]; congr 1; omega
                      simp [zeros_size, hzsz]
                      simp at hold3
                      omega
                    have hrx : ∀ (i : Nat) x', (cs ++ ys)[i]? = some x' → ∃ v', row[i]? = some v' ∧ VR C x' v' := fun i x' hx' => by
                      obtain ⟨u, hu', hr⟩ := hax i x' hx'
                      refine ⟨u, ?_, hr⟩
                      have hi : i < (olds ++ vs.toArray).size := by
                        rcases Nat.lt_or_ge i (olds.toList ++ vs).length with h' | h'
                        · simpa using h'
                        · simp [List.getElem?_eq_none h'] at hu'
                      rw [← hrow, Array.getElem?_append_left hi, ← Array.getElem?_toList]
                      simpa using hu'
                    obtain ⟨hle, hhr⟩ := upd_block (C := C) hH (b := b) (blk := .cells ei.size (cs ++ ys)) (C.w.drew.alloc (.cells row e (0, 0))) C.w.heap.size
                      (by
                        rw [hg]
                        rcases Classical.em (cs = []) with hcn | hcn
                        · exact .inr ⟨⟨ei.size, by rw [hcn]⟩, Nat.le_refl _, fun c hc => Below.heap_alloc C.w.drew _ _ hc⟩
                        · exact .inl (live_cells hcn)) rfl rfl rfl (by simp)
                      (fun c hc _ => Below.heap_alloc C.w.drew _ _ hc) (.inr (Nat.le_refl _)) (by simp)
                      ⟨⟨cs, hg, .inl (by have : 0 < m * ei.size := Nat.mul_pos hm0 (Nat.pos_of_ne_zero hb3); simp; omega)⟩, row, e, by show (C.w.heap.push _)[C.w.heap.size]? = _; simp, by
                        have e1 : (n + m) * ei.size ≤ newCap * ei.size := Nat.mul_le_mul_right _ hnc
                        simp; omega, hrx⟩
                    refine ⟨.value (.slice (some ⟨C.w.heap.size, 0, none⟩) (n + m) newCap), _, key _ _ hrun, _, rfl, _, ⟨_, _, rfl, hnc, Nat.le_refl _, ?_, fun sz' cs' hg' => ?_⟩, hhr, hle⟩
                    · show upd1 C.g b _ b ≠ _; rw [upd1_same]; simp
                    · have hg2 : upd1 C.g b (.cells ei.size (cs ++ ys)) b = .cells sz' cs' := hg'
                      rw [upd1_same] at hg2; cases hg2
                      refine ⟨by simp; omega, fun _ => .inr ⟨fun z => ?_, row, e, ?_, .inr ⟨?_, by omega⟩⟩⟩
                      · have : 0 < m * ei.size := Nat.mul_pos hm0 (Nat.pos_of_ne_zero hb3)
                        have z2 := congrArg List.length z
                        rw [List.length_append, List.length_nil] at z2; omega
                      · show (C.w.heap.push _)[upd1 C.φ b C.w.heap.size b]? = _; rw [upd1_same]; simp
                      · show _ = some (⟨upd1 C.φ b C.w.heap.size b, 0, none⟩ : Addr); rw [upd1_same]
                  · -- in place
                    by_cases hcc : cc = 0
                    · have hn0 : n = 0 ∧ m = 0 := by omega
                      obtain ⟨rfl, rfl⟩ := hn0
                      have hv0 : vs = [] := List.eq_nil_of_length_eq_zero (by omega)
                      have hy0 : ys = [] := List.eq_nil_of_length_eq_zero (by omega)
                      have hcs0 : cs = [] := List.eq_nil_of_length_eq_zero (by omega)
                      subst hv0 hy0 hcs0
                      have hrun := app1 hroom C.w (by cases base with | none => rfl | some ad => rfl)
                      have hsame : upd1 C.g b (.cells ei.size ([] ++ [])) = C.g := by
                        funext i
                        by_cases e : i = b
                        · subst e; rw [upd1_same, hg]; rfl
                        · rw [upd1_ne _ _ e]
                      have hCeq : (⟨C.φ, updL C.g [(b, .cells ei.size ([] ++ []))], C.Bo, C.G, C.w⟩ : Cx) = C := by
                        show (⟨C.φ, upd1 C.g b _, C.Bo, C.G, C.w⟩ : Cx) = C
                        rw [hsame]
                      refine ⟨.value (.slice base (0 + 0) cc), C.w, key _ _ hrun, _, rfl, C.φ, ?_, ?_, ?_⟩
                      · rw [hCeq]; exact ⟨base, cc, rfl, hroom, Nat.le_refl _, h3, h4⟩
                      · rw [hCeq]; exact hH
                      · rw [hCeq]; exact Le.refl C
                    · obtain ⟨hne, arr, el, harr, rfl, h8, hlen0, hcc0⟩ := h7.resolve_left (fun z => hcc z.2)
                      have hcn : (n + m) * ei.size ≤ cc * ei.size := Nat.mul_le_mul_right _ hroom
                      obtain ⟨w1, hle, hhr, arr', w4, w5⟩ := write_own (P := P) hH (n * ei.size) (cs' := cs ++ ys) hg hne hys hvall harr (by omega) (fun i x' hx' => by
                          by_cases hi : i < cs.length
                          · rw [List.getElem?_append_left hi] at hx'
                            exact .inr ⟨by omega, hx'⟩
                          · rw [List.getElem?_append_right (by omega)] at hx'
                            have hi2 : i - cs.length < ys.length := by
                              rcases Nat.lt_or_ge (i - cs.length) ys.length with h' | h'
                              · exact h'
                              · simp [List.getElem?_eq_none h'] at hx'
                            exact .inl ⟨by omega, by omega, by rw [hc2]; exact hx'⟩) (by simp; omega) (by simp)
                      have hrun := app1 hroom _ (show (storeCells ((⟨C.φ b, 0, none⟩ : Addr).add (n * ei.size)) vs).run P C.w = _ by rw [add_off, Nat.zero_add]; exact w1)
                      refine ⟨.value (.slice (some ⟨C.φ b, 0, none⟩) (n + m) cc), _, key _ _ hrun, _, rfl, _, ⟨_, _, rfl, hroom, Nat.le_refl _, ?_, fun sz' cs' hg' => ?_⟩, hhr, hle⟩
                      · show upd1 C.g b _ b ≠ _; rw [upd1_same]; simp
                      · have hg2 : upd1 C.g b (.cells ei.size (cs ++ ys)) b = .cells sz' cs' := hg'
                        rw [upd1_same] at hg2; cases hg2
                        refine ⟨by simp; omega, fun _ => .inr ⟨fun z => hne (by simp at z; exact z.1), arr', el, ?_, .inr ⟨?_, by omega⟩⟩⟩
                        · show (C.w.setCells _ _ _).heap[upd1 C.φ b (C.φ b) b]? = _; rw [upd1_same]; exact w4
                        · show _ = some (⟨upd1 C.φ b (C.φ b) b, 0, none⟩ : Addr); rw [upd1_same]
                · rw [if_neg hnc] at h
                  cases h
                  obtain ⟨hc1, hc2, hc3, hc4⟩ := hc
                  obtain ⟨vs, hlen, hyl, hys, hfirst⟩ := appSrc_ok (P := P) hH hd hsrc hc1
                  obtain ⟨base, cc, hx, h1, h1', h3, h4⟩ := ha
                  obtain ⟨h5, h6⟩ := h4 _ _ hg
                  have hcap : 0 < cap := by omega
                  have hpos : 0 < cap * ei.size := Nat.mul_pos hcap (Nat.pos_of_ne_zero hb3)
                  obtain ⟨hne, arr, el, harr, h7⟩ := (h6 (by omega)).resolve_left (fun z => by rw [z.1] at hc2; simp at hc2; omega)
                  obtain ⟨rfl, h8, h9⟩ := h7.resolve_left (fun z => by omega)
                  obtain ⟨app1, _⟩ := app _ n cc m vs hx hlen hfirst
                  have hvl : vs.length = m * ei.size := by rw [← hyl]; exact ((vrs_iff _ _).1 hys).1.symm
                  have hvall : ∀ u ∈ vs, u.oneCell' = true := fun u hu' => by
                    obtain ⟨i, hi, he'⟩ := List.getElem_of_mem hu'
                    have hix : i < ys.length := by rw [hyl, ← hvl]; exact hi
                    obtain ⟨u', hu2, hr⟩ := ((vrs_iff _ _).1 hys).2 i ys[i] (by simp)
                    rw [List.getElem?_eq_getElem hi, he'] at hu2
                    cases hu2
                    exact vr_scal hr (List.all_eq_true.1 hc4 _ (List.getElem_mem hix))
                  have e0 : (n + m) * ei.size = n * ei.size + m * ei.size := Nat.add_mul _ _ _
                  have e1 : (n + m) * ei.size ≤ cap * ei.size := Nat.mul_le_mul_right _ hc3
                  have h0 := hH.blk b
                  rw [hg] at h0
                  obtain ⟨hlt, hnb, arr0, el0, harr0, hlen0, hcc0⟩ := h0.resolve_left hne
                  rw [harr] at harr0
                  cases harr0
                  obtain ⟨w1, hle, hhr, arr', w4, w5⟩ := write_own (P := P) hH (n * ei.size) (cs' := setMany cs (n * ei.size) ys) hg hne hys hvall harr (by omega) (fun i x' hx' => by
                      rw [setMany_get] at hx'
                      split at hx'
                      · rename_i hin; exact .inl ⟨hin.1, hin.2.1, hx'⟩
                      · rename_i hin
                        refine .inr ⟨fun hh => hin ⟨hh.1, hh.2, ?_⟩, hx'⟩
                        rcases Nat.lt_or_ge i cs.length with h' | h'
                        · exact h'
                        · simp [List.getElem?_eq_none h'] at hx') (by rw [setMany_len]; exact hlen0) (by rw [setMany_len]; exact Nat.le_refl _)
                  have hrun := app1 (by omega) _ (show (storeCells ((⟨C.φ b, 0, none⟩ : Addr).add (n * ei.size)) vs).run P C.w = _ by rw [add_off, Nat.zero_add]; exact w1)
                  refine ⟨.value (.slice (some ⟨C.φ b, 0, none⟩) (n + m) cc), _, key _ _ hrun, _, rfl, _, ⟨_, _, rfl, by omega, hc3, ?_, fun sz' cs' hg' => ?_⟩, hhr, hle⟩
                  · show upd1 C.g b _ b ≠ _; rw [upd1_same]; simp
                  · have hg2 : upd1 C.g b (.cells ei.size (setMany cs (n * ei.size) ys)) b = .cells sz' cs' := hg'
                    rw [upd1_same] at hg2; cases hg2
                    rw [setMany_len]
                    refine ⟨h5, fun _ => .inr ⟨fun z => hne (List.eq_nil_of_length_eq_zero (by have := congrArg List.length z; rw [setMany_len] at this; simpa using this)), arr', el, ?_, .inr ⟨?_, by omega, by omega⟩⟩⟩
                    · show (C.w.setCells _ _ _).heap[upd1 C.φ b (C.φ b) b]? = _; rw [upd1_same]; exact w4
                    · show _ = some (⟨upd1 C.φ b (C.φ b) b, 0, none⟩ : Addr); rw [upd1_same]
              · cases h
            · cases h
          · cases h
        · -- a nil slice
          split at h
          · rename_i c' m ys hsrc
            cases h
            obtain ⟨hc1, hc2, hc3⟩ := hc
            obtain ⟨vs, hlen, hyl, hys, hfirst⟩ := appSrc_ok (P := P) hH hd hsrc hc1
            have hx : ρ x = .slice none 0 0 := ha
            obtain ⟨_, app2⟩ := app none 0 0 m vs hx hlen hfirst
            obtain ⟨newCap, hnc, hrun⟩ := app2 (by omega) (by omega) #[] (by rw [hx]; simp [Builtin.firstCells])
            obtain ⟨hyl2, hyx⟩ := (vrs_iff _ _).1 hys
            generalize hrow : #[] ++ vs.toArray ++ Builtin.zeroCells zv.cells (newCap - (0 + m)) = row at hrun
            have hrs : row.size = newCap * ei.size := by
              rw [← hrow]
              have e1 : (newCap - (0 + m)) * ei.size + m * ei.size = newCap * ei.size := by rw [← Nat.add_mul]; congr 1; omega
              simp [zeros_size, hzsz]
              simp at e1
              omega
            have hd' := new_block (C := ⟨C.φ, C.g, C.Bo, C.G, C.w.drew⟩) (drew_ok hH).2 hid (.cells ei.size ys) (.cells row e (0, 0)) ⟨row, e, rfl, by
                have e1 : m * ei.size ≤ newCap * ei.size := Nat.mul_le_mul_right _ (by omega)
                omega, fun i x' hx' => by
                obtain ⟨u, hu', hr⟩ := hyx i x' hx'
                refine ⟨u, ?_, (drew_ok hH).1.vr _ _ hr⟩
                have hi : i < (#[] ++ vs.toArray).size := by
                  rcases Nat.lt_or_ge i vs.length with h' | h'
                  · simpa using h'
                  · simp [List.getElem?_eq_none h'] at hu'
                rw [← hrow, Array.getElem?_append_left hi, ← Array.getElem?_toList]
                simpa using hu'⟩
            have hle0 := (drew_ok hH).1
            refine ⟨.value (.slice (some ⟨C.w.heap.size, 0, none⟩) (0 + m) newCap), _, key _ _ hrun, _, rfl, _, ?_, hd'.2, hle0.trans hd'.1⟩
            rw [Nat.zero_add]
            refine ⟨_, _, rfl, by omega, Nat.le_refl _, ?_, fun sz' cs' hg' => ?_⟩
            · show upd1 C.g id _ id ≠ _; rw [upd1_same]; simp
            · have hg2 : upd1 C.g id (.cells ei.size ys) id = .cells sz' cs' := hg'
              rw [upd1_same] at hg2; cases hg2
              refine ⟨by omega, fun _ => .inr ⟨fun z => ?_, row, e, ?_, .inr ⟨?_, by omega⟩⟩⟩
              · have : 0 < m * ei.size := Nat.mul_pos hc2 (Nat.pos_of_ne_zero hb3)
                rw [← hyl, z] at this; simp at this
              · show (C.w.heap.push _)[upd1 C.φ id C.w.heap.size id]? = _; rw [upd1_same]; simp
              · show _ = some (⟨upd1 C.φ id C.w.heap.size id, 0, none⟩ : Addr); rw [upd1_same]
          · cases h
        · cases h
      · cases h
    · rename_i ei he hno
      obtain ⟨inf', d', hi', hsz', hby', ⟨zv, hz, hzo⟩, _⟩ := tOf hT he
      split at h
      · rename_i m zc hzn hzc
        split at h
        · rename_i hcond
          cases h
          obtain ⟨hb1, hb2, hb3⟩ := hcond
          obtain ⟨hc0, hc2⟩ := hc
          have hxt : P.underlying xt = some (.int .i64) ∧ ρ y = .int .i64 m := by
            unfold zeroN at hzn
            split at hzn
            · rename_i szx byx agx zx mx htx
              cases hzn
              obtain ⟨infx, dx, _, _, _, _, hux, htdx, _⟩ := tOf hT htx
              obtain rfl := tdb_int htdx
              exact ⟨hux, vr_i hd⟩
            · cases hzn
          obtain ⟨hux, hy⟩ := hxt
          have hx : ρ x = .slice none 0 0 := ha
          have hzr : VR C ei.zero zv := by rw [← hzo]; exact ofV_vr C zv
          obtain ⟨hzl, hzx⟩ := (vrs_iff _ _).1 (vr_cells hzr hzc)
          obtain ⟨zu, hzu, hzur⟩ := hzx 0 zc rfl
          have hzs : zv.cells.size = 1 := by simpa using hzl.symm
          have hlim : (m : Int) ≤ 4294967296 := hc2
          have wm : IntKind.wrap .i64 m = m := wrap_in (by omega) (by omega)
          have hnc := nextcap_le (n := m.toNat) (c := 0) (by omega)
          have hbm : ¬ (m * (ei.bytes : Int) > 2 ^ 48) := by
            have h1 : m * (ei.bytes : Int) ≤ 4294967296 * 4096 := by
              apply Int.mul_le_mul <;> omega
            omega
          have hbig : ¬ (Builtin.nextslicecap m.toNat 0 * ei.bytes > 2 ^ 48) := by
            have h1 : Builtin.nextslicecap m.toNat 0 ≤ 8589935360 := by omega
            have h2 := Nat.mul_le_mul h1 hb1
            have h3 : 8589935360 * 4096 ≤ 2 ^ 48 := by decide
            omega
          have hb0 : ¬ (ei.bytes = 0) := hb2
          have hneg : ¬ (m < 0) := by omega
          have hle : ¬ (m.toNat ≤ 0) := by omega
          have hz0 : ¬ (m.toNat = 0) := by omega
          have hmax : ¬ ((m.toNat : Int) > IntKind.i64.max) := by
            have : IntKind.i64.max = 9223372036854775807 := by decide
            omega
          obtain ⟨newCap, hnew, hrun⟩ : ∃ newCap, m.toNat ≤ newCap ∧ (Builtin.append_ #[st, xt] o.type #[ρ x, ρ y]).run P C.w = .ok (.slice (some ⟨C.w.heap.size, 0, none⟩) m.toNat newCap)
              (C.w.drew.alloc (.cells (#[] ++ Builtin.zeroCells zv.cells m.toNat ++ Builtin.zeroCells zv.cells (newCap - m.toNat)) e (0, 0))) := by
            refine ⟨m.toNat + C.w.tape C.w.drawn (.appendCap m.toNat 0 e) % (2 ^ 63 - m.toNat), by omega, ?_⟩
            simp only [Builtin.append_, List.getElem?_toArray, List.getElem?_cons_zero, List.getElem?_cons_succ, Sem.run_bind, run_und hu, Result.andThen_ok, hx, hy, run_sz hi', hsz', hb3, run_und hux, Sem.run_pure, if_true, asInt, asIntOf, wm, hneg, if_false, run_inf hi', hby', hbm, Nat.zero_add, hle, hmax, hb0, or_false, false_and, hbig, run_choose, Question.forced, Question.cut, World.drew_eq, run_askRoom, Builtin.firstCells, Nat.mul_one, hz0, run_zero hi' hz, Bool.not_true, Bool.false_eq_true, newRow, run_newObj, World.alloc_eq]
            rfl
          generalize hrow : #[] ++ Builtin.zeroCells zv.cells m.toNat ++ Builtin.zeroCells zv.cells (newCap - m.toNat) = row at hrun
          have hrs : row.size = newCap := by rw [← hrow]; simp [zeros_size, hzs]; omega
          have hd' := new_block (C := ⟨C.φ, C.g, C.Bo, C.G, C.w.drew⟩) (drew_ok hH).2 hid (.cells 1 (List.replicate m.toNat zc)) (.cells row e (0, 0)) ⟨row, e, rfl, by simp; omega, fun i q hq => by
              have hi : i < m.toNat := by
                rcases Nat.lt_or_ge i m.toNat with h' | h'
                · exact h'
                · rw [List.getElem?_eq_none (by simpa using h')] at hq; cases hq
              rw [List.getElem?_replicate, if_pos hi] at hq
              cases hq
              refine ⟨zu, ?_, (drew_ok hH).1.vr _ _ hzur⟩
              rw [← hrow, Array.getElem?_append_left (by simp [zeros_size, hzs]; omega), Array.empty_append]
              unfold Builtin.zeroCells
              rw [hzs, Nat.mul_one, Array.getElem?_map, Array.getElem?_range, if_pos hi]
              simp only [Option.map_some, Nat.mod_one]
              rw [Array.getElem?_toList] at hzu
              rw [getElem!_def, hzu]⟩
          have hle0 := (drew_ok hH).1
          refine ⟨.value (.slice (some ⟨C.w.heap.size, 0, none⟩) m.toNat newCap), _, key _ _ hrun, _, rfl, _, ?_, hd'.2, hle0.trans hd'.1⟩
          refine ⟨_, _, rfl, hnew, Nat.le_refl _, ?_, fun sz' cs' hg' => ?_⟩
          · show upd1 C.g id _ id ≠ _; rw [upd1_same]; simp
          · have hg2 : upd1 C.g id (.cells 1 (List.replicate m.toNat zc)) id = .cells sz' cs' := hg'
            rw [upd1_same] at hg2; cases hg2
            refine ⟨by simp, fun _ => .inr ⟨fun z => by have := congrArg List.length z; simp at this; omega, row, e, ?_, .inr ⟨?_, by omega, hnew⟩⟩⟩
            · show (C.w.heap.push _)[upd1 C.φ id C.w.heap.size id]? = _; rw [upd1_same]; simp
            · show _ = some (⟨upd1 C.φ id C.w.heap.size id, 0, none⟩ : Addr); rw [upd1_same]
        · cases h
      · cases h
    · cases h
  · cases h

end
end Go.Proofs.Ytdacfgclclpooaa
