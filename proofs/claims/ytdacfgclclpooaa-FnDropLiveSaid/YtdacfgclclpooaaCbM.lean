/- The abstract operations tell the truth: all of them. Conditions: the table of types fits the program. -/
import Derived.Test.YtdacfgclclpooaaCbL
import Derived.Laws.Build
namespace Go.Proofs.Ytdacfgclclpooaa
open Go Go.RowKit
set_option linter.unusedVariables false
set_option linter.unusedSimpArgs false
set_option linter.unusedSectionVars false

theorem bytesOf_ok {C : Cx} : ∀ (cs : List AV) (l : List UInt8) (vs : List Value), bytesOf cs = some l → VRs C cs vs → ∃ ns : List Int, vs = ns.map (Value.int .u8) ∧ l = ns.map fun n => UInt8.ofNat n.toNat
  | [], l, vs, h, hv => by cases h; exact ⟨[], hv, rfl⟩
  | a :: cs, l, vs, h, hv => by
    obtain ⟨v, vs', rfl, h1, h2⟩ := hv
    unfold bytesOf at h
    split at h
    · rename_i e; cases e
    · rename_i n r e
      cases e
      split at h
      · rename_i l' hl
        cases h
        obtain ⟨ns, rfl, rfl⟩ := bytesOf_ok cs l' vs' hl h2
        exact ⟨n :: ns, by rw [vr_i h1]; rfl, rfl⟩
      · cases h
    · cases h

theorem foldl_push : ∀ (ns : List Int) (acc : List UInt8), ns.foldl (fun (r : ByteArray) n => r.push (UInt8.ofNat n.toNat)) ⟨acc.toArray⟩ = ⟨(acc ++ ns.map fun n => UInt8.ofNat n.toNat).toArray⟩
  | [], acc => by simp
  | n :: ns, acc => by
    rw [List.foldl_cons]
    have : (⟨acc.toArray⟩ : ByteArray).push (UInt8.ofNat n.toNat) = ⟨(acc ++ [UInt8.ofNat n.toNat]).toArray⟩ := by
      apply ByteArray.ext
      simp [ByteArray.push]
    rw [this, foldl_push ns]
    simp

section
variable {P : Program} {T : TT} (hT : TOk P T) {C : Cx} (hH : HR C) {o : Oper} {ρ : Operand → Value}
include hT hH

/-- The row that a slice's cells are. -/
theorem rowOf_k {sz : Nat} {a : AV} {v : Value} (ha : VR C a v) {c : Prop} {n : Nat} {cs : List AV} (h : rowOf C.g a = some (c, n, cs)) (hc : c) (hn : n ≤ cs.length) (m : Nat) (hm' : m ≤ n) :
    (n = 0 ∧ ∃ ao cc, v = .slice ao 0 cc) ∨ ∃ ad cc, v = .slice (some ad) n cc ∧ ∃ vs : List Value, vs.length = m ∧ VRs C (cs.take m) vs ∧ (loadCells ad m).run P C.w = .ok vs.toArray C.w := by
  unfold rowOf at h
  split at h
  · cases h; exact .inl ⟨rfl, none, 0, ha⟩
  · rename_i t n' cs'
    cases h
    obtain ⟨ao, cc, rfl, h1, h2⟩ := ha
    rcases h2 with rfl | ⟨h2, blk, off, rfl, hok, hm⟩
    · exact .inl ⟨rfl, ao, cc, rfl⟩
    · refine .inr ⟨_, cc, rfl, ?_⟩
      have hex : ∀ k, k ≤ cs.length → ∃ vs : List Value, vs.length = k ∧ VRs C (cs.take k) vs ∧ ∀ j u, vs[j]? = some u → C.w.cell? ⟨blk, off + j, none⟩ = some u := by
        intro k
        induction k with
        | zero => intro _; exact ⟨[], rfl, by simp [VRs], fun j u hj => by simp at hj⟩
        | succ k ih =>
          intro hk
          obtain ⟨vs, h3, h4, h5⟩ := ih (by omega)
          obtain ⟨u, hu, hd⟩ := (vdm_iff _ _ _).1 hm k cs[k] (by simp)
          refine ⟨vs ++ [u], by simp [h3], ?_, fun j u' hj => ?_⟩
          · rw [List.take_succ_eq_append_getElem (by omega)]
            exact vrs_cat h4 ⟨u, [], rfl, rdAt_ok.vd_vr hd, rfl⟩
          · by_cases hjk : j < vs.length
            · rw [List.getElem?_append_left hjk] at hj; exact h5 j u' hj
            · rw [List.getElem?_append_right (by omega)] at hj
              have hj0 : j - vs.length = 0 := by
                rcases Nat.eq_zero_or_pos (j - vs.length) with h' | h'
                · exact h'
                · rw [List.getElem?_eq_none (by simp; omega)] at hj; cases hj
              rw [hj0] at hj
              simp at hj
              subst hj
              rw [← hu]; congr 2; omega
      obtain ⟨vs, h3, h4, h5⟩ := hex m (by omega)
      have hrun := run_loadCells_list (P := P) C.w ⟨blk, off, none⟩ vs (fun j u hu => by rw [add_off]; exact h5 j u hu)
      rw [h3] at hrun
      exact ⟨vs, h3, h4, hrun⟩
  · rename_i b off n' cap
    split at h
    · rename_i sz' cs' hg
      cases h
      obtain ⟨ao, cc, rfl, h1, _, h3, h4⟩ := ha
      obtain ⟨h5, h6⟩ := h4 _ _ hg
      rcases h6 hc with ⟨_, h7⟩ | ⟨hne, arr, el, harr, h7⟩
      · have : n = 0 := by omega
        subst this
        exact .inl ⟨rfl, ao, cc, rfl⟩
      rcases h7 with h7 | ⟨rfl, h7⟩
      · have : n = 0 := by omega
        subst this
        exact .inl ⟨rfl, ao, cc, rfl⟩
      · have h0 := hH.blk b
        rw [hg] at h0
        obtain ⟨hlt, hnb, arr', el', harr', hlen, hcc⟩ := h0.resolve_left hne
        rw [harr] at harr'
        cases harr'
        simp at hn
        refine .inr ⟨_, cc, rfl, (arr.extract off (off + m)).toList, by simp; omega, ?_, by rw [run_cells harr m (by omega), Array.toArray_toList]⟩
        rw [vrs_iff]
        refine ⟨by simp; omega, fun i x hx => ?_⟩
        rw [List.getElem?_take] at hx
        split at hx
        · rw [List.getElem?_drop] at hx
          obtain ⟨u, hu, hr⟩ := hcc _ _ hx
          exact ⟨u, by rw [Array.getElem?_toList, Array.getElem?_extract, if_pos (by omega)]; exact hu, hr⟩
        · cases hx
    · cases h
  · cases h

theorem rowOf_ok {sz : Nat} {a : AV} {v : Value} (ha : VR C a v) {c : Prop} {n : Nat} {cs : List AV} (h : rowOf C.g a = some (c, n, cs)) (hc : c) (hn : n ≤ cs.length) :
    (n = 0 ∧ ∃ ao cc, v = .slice ao 0 cc) ∨ ∃ ad cc, v = .slice (some ad) n cc ∧ ∃ vs : List Value, vs.length = n ∧ VRs C (cs.take n) vs ∧ (loadCells ad n).run P C.w = .ok vs.toArray C.w :=
  rowOf_k hT hH (sz := sz) ha h hc hn n (Nat.le_refl _)

theorem aCap_ok {cl : Call} {t : Nat} {ts : List Nat} {x : Operand} (ho : o.op = .call cl) (hcl : cl.callee = .builtin .cap) (harg : cl.args.toList = [x]) (hty : cl.argTypes.toList = t :: ts)
    {a : AV} (ha : VR C a (ρ x)) {c : Prop} {v : AV} {up : List (Nat × Blk)} (h : aCap T t a = some (c, v, up)) (hc : c) : Snd C ((execOp ρ o).run P C.w) v up := by
  have hargs : cl.args = #[x] := by rw [← Array.toArray_toList (xs := cl.args), harg]
  have hts : cl.argTypes = (t :: ts).toArray := by rw [← Array.toArray_toList (xs := cl.argTypes), hty]
  unfold aCap at h
  split at h
  · rename_i sz by_ ag z e hti
    obtain ⟨inf, d, _, _, _, _, hu, htd, _⟩ := tOf hT hti
    obtain rfl := tdb_slice htd
    cases h
    have hρ : ρ x = .slice none 0 0 := ha
    refine snd_pure hH (u := .int .i64 0) ?_ rfl
    simp only [execOp, ho, resolve, hcl, hargs, hts, List.map_toArray, List.map_cons, List.map_nil, Sem.run_bind, Sem.run_pure, Result.andThen_ok, invoke, builtin, Builtin.cap_, List.getElem?_toArray, List.getElem?_cons_zero, run_und hu, hρ]
    rfl
  · cases h

theorem aCopy_ok {cl : Call} {t : Nat} {ts : List Nat} {x y : Operand} (ho : o.op = .call cl) (hcl : cl.callee = .builtin .copy) (harg : cl.args.toList = [x, y]) (hty : cl.argTypes.toList = t :: ts)
    {a b0 : AV} (ha : VR C a (ρ x)) (hb0 : VR C b0 (ρ y)) {c : Prop} {v : AV} {up : List (Nat × Blk)} (h : aCopy T C.g t a b0 = some (c, v, up)) (hc : c) : Snd C ((execOp ρ o).run P C.w) v up := by
  have hargs : cl.args = #[x, y] := by rw [← Array.toArray_toList (xs := cl.args), harg]
  have hts : cl.argTypes = (t :: ts).toArray := by rw [← Array.toArray_toList (xs := cl.argTypes), hty]
  have key : ∀ (r : Value) (w' : World), (Builtin.copy_ (t :: ts).toArray o.type #[ρ x, ρ y]).run P C.w = .ok r w' → (execOp ρ o).run P C.w = .ok (.value r) w' := fun r w' hn => by
    simp only [execOp, ho, resolve, hcl, hargs, hts, List.map_toArray, List.map_cons, List.map_nil, Sem.run_bind, Sem.run_pure, Result.andThen_ok, invoke, builtin, hn]
  unfold aCopy at h
  split at h
  · rename_i sz0 by_ ag z e b off n cap hti
    obtain ⟨inf, d, _, _, _, _, hu, htd, _⟩ := tOf hT hti
    obtain rfl := tdb_slice htd
    split at h
    · rename_i ei sz cs c' m ys he hg hrow
      obtain ⟨inf', d', hi', hsz', _⟩ := tOf hT he
      split at h
      · rename_i hcond
        cases h
        obtain ⟨rfl, hb1⟩ := hcond
        obtain ⟨hc1, hc2, hc3, hc4⟩ := hc
        obtain ⟨base, cc, hx, h1, h1', h3, h4⟩ := ha
        obtain ⟨h5, h6⟩ := h4 _ _ hg
        have hmin : min m n ≤ m := Nat.min_le_left _ _
        have hmin2 : min m n ≤ n := Nat.min_le_right _ _
        have hlen : (Builtin.lenOf (ρ y)).run P C.w = .ok m C.w := by
          rcases rowOf_k hT hH (sz := 1) hb0 hrow hc1 hc3 (min m n) hmin with ⟨rfl, ao, c2, hy⟩ | ⟨ad, c2, hy, _⟩
          · rw [hy]; rfl
          · rw [hy]; rfl
        have zero : min m n = 0 → Snd C ((execOp ρ o).run P C.w) (.i .i64 (min m n : Nat)) [(b, .cells 1 (setMany cs off (ys.take (min m n))))] := fun h0 => by
          have hsame : upd1 C.g b (.cells 1 (setMany cs off (ys.take (min m n)))) = C.g := by
            funext i
            by_cases e : i = b
            · subst e; rw [upd1_same, hg, h0]; rfl
            · rw [upd1_ne _ _ e]
          have hCeq : (⟨C.φ, updL C.g [(b, .cells 1 (setMany cs off (ys.take (min m n))))], C.Bo, C.G, C.w⟩ : Cx) = C := by
            show (⟨C.φ, upd1 C.g b _, C.Bo, C.G, C.w⟩ : Cx) = C
            rw [hsame]
          refine ⟨.value (.int .i64 (min m n : Nat)), C.w, key _ _ ?_, _, rfl, C.φ, ?_, ?_, ?_⟩
          · have hf : (Builtin.firstCells 1 0 (ρ y)).run P C.w = .ok #[] C.w := by
              rcases rowOf_k hT hH (sz := 1) hb0 hrow hc1 hc3 (min m n) hmin with ⟨rfl, ao, c2, hy⟩ | ⟨ad, c2, hy, _⟩
              · rw [hy]; cases ao <;> simp [Builtin.firstCells, loadCells, loadCellsFrom]
              · rw [hy]; simp [Builtin.firstCells, loadCells, loadCellsFrom]
            have h0' : Nat.min m n = 0 := h0
            cases base with
            | none => simp only [Builtin.copy_, List.getElem?_toArray, List.getElem?_cons_zero, List.getElem?_cons_succ, Sem.run_bind, run_und hu, Result.andThen_ok, hx, hlen, h0', run_sz hi', hsz', hb1, hf, Sem.run_pure]; rfl
            | some ad => simp only [Builtin.copy_, List.getElem?_toArray, List.getElem?_cons_zero, List.getElem?_cons_succ, Sem.run_bind, run_und hu, Result.andThen_ok, hx, hlen, h0', run_sz hi', hsz', hb1, hf, Sem.run_pure]; rfl
          · rfl
          · rw [hCeq]; exact hH
          · rw [hCeq]; exact Le.refl C
        by_cases h0 : min m n = 0
        · exact zero h0
        have hn0 : 0 < n := by omega
        have hcap : 0 < cap := by omega
        obtain ⟨hne, arr, el, harr, h7⟩ := (h6 hc2).resolve_left (fun z => by rw [z.1] at hc2; simp at hc2; omega)
        obtain ⟨rfl, h8, h9⟩ := h7.resolve_left (fun z => by omega)
        have h0' := hH.blk b
        rw [hg] at h0'
        obtain ⟨hlt, hnb, arr0, el0, harr0, hlen0, hcc0⟩ := h0'.resolve_left hne
        rw [harr] at harr0
        cases harr0
        rcases rowOf_k hT hH (sz := 1) hb0 hrow hc1 hc3 (min m n) hmin with ⟨rfl, ao, c2, hy⟩ | ⟨ad, c2, hy, vs, hv1, hv2, hv3⟩
        · simp at h0
        have hvl := ((vrs_iff _ _).1 hv2).1
        have hvall : ∀ u ∈ vs, u.oneCell' = true := fun u hu' => by
          obtain ⟨i, hi, he'⟩ := List.getElem_of_mem hu'
          have hix : i < (ys.take (min m n)).length := by rw [hvl]; exact hi
          obtain ⟨u', hu2, hr⟩ := ((vrs_iff _ _).1 hv2).2 i (ys.take (min m n))[i] (by rw [List.getElem?_eq_getElem hix])
          rw [List.getElem?_eq_getElem hi, he'] at hu2
          cases hu2
          exact vr_scal hr (List.all_eq_true.1 hc4 _ (List.getElem_mem hix))
        obtain ⟨w1, hle, hhr, arr', w4, w5⟩ := write_own (P := P) hH off (cs' := setMany cs off (ys.take (min m n))) hg hne hv2 hvall harr (by omega) (fun i x' hx' => by
            rw [setMany_get] at hx'
            split at hx'
            · rename_i hin; exact .inl ⟨hin.1, hin.2.1, hx'⟩
            · rename_i hin
              refine .inr ⟨fun hh => hin ⟨hh.1, hh.2, ?_⟩, hx'⟩
              rcases Nat.lt_or_ge i cs.length with h' | h'
              · exact h'
              · simp [List.getElem?_eq_none h'] at hx') (by rw [setMany_len]; exact hlen0) (by rw [setMany_len]; exact Nat.le_refl _)
        refine ⟨.value (.int .i64 (min m n : Nat)), _, key _ _ ?_, _, rfl, _, rfl, hhr, hle⟩
        have hmn : Nat.min m n = min m n := rfl
        have w1' : (storeCells ⟨C.φ b, off, none⟩ vs.toArray.toList).run P C.w = .ok () (C.w.setCells (C.φ b) off vs) := w1
        rw [hy] at hlen
        simp only [Builtin.copy_, List.getElem?_toArray, List.getElem?_cons_zero, List.getElem?_cons_succ, Sem.run_bind, run_und hu, Result.andThen_ok, hx, hy, hlen, hmn, run_sz hi', hsz', hb1, Builtin.firstCells, Nat.mul_one, hv3, w1', Sem.run_pure]
        rfl
      · cases h
    · cases h
  · cases h

theorem aConv_ok {s d : Nat} {x : Operand} (ho : o.op = .convert s d x) {a : AV} (ha : VR C a (ρ x))
    {c : Prop} {v : AV} {up : List (Nat × Blk)} (h : aConv T C.g s d a = some (c, v, up)) (hc : c) : Snd C ((execOp ρ o).run P C.w) v up := by
  have key : ∀ u, (convert s d (ρ x)).run P C.w = .ok u C.w → (execOp ρ o).run P C.w = .ok (.value u) C.w := fun u h2 => by
    simp only [execOp, ho, Sem.run_bind, h2, Result.andThen_ok, Sem.run_pure]
  unfold aConv aConv0 at h
  split at h
  · rename_i ti sz by_ ag z k k' n hs hd
    obtain ⟨inf, dd, _, _, _, _, hu, htd, _⟩ := tOf hT hd
    obtain rfl := tdb_int htd
    obtain ⟨inf', ds, _, _, _, _, hu', _, _⟩ := tOf hT hs
    cases h
    refine snd_pure hH (key (.int k (k.wrap n)) ?_) rfl
    rw [vr_i ha]
    simp only [convert, Sem.run_bind, run_und hu, run_und hu', Result.andThen_ok]
    cases ds <;> rfl
  · rename_i sz by_ ag z sz2 by2 ag2 z2 l hs hd
    obtain ⟨inf, dd, _, _, _, _, hu, htd, _⟩ := tOf hT hd
    obtain rfl := tdb_str htd
    obtain ⟨inf', ds, _, _, _, _, hu', htd', _⟩ := tOf hT hs
    obtain rfl := tdb_str htd'
    cases h
    refine snd_pure hH (key (.string ⟨l.toArray⟩) ?_) rfl
    rw [vr_s ha]
    simp only [convert, Sem.run_bind, run_und hu, run_und hu', Result.andThen_ok]
    rfl
  · rename_i sz by_ ag z e sz2 by2 ag2 z2 hs hd
    obtain ⟨inf, dd, _, _, _, _, hu, htd, _⟩ := tOf hT hd
    obtain rfl := tdb_str htd
    obtain ⟨inf', ds, _, _, _, _, hu', htd', _⟩ := tOf hT hs
    obtain rfl := tdb_slice htd'
    split at h
    · rename_i by3 ag3 z3 he
      obtain ⟨inf3, de, _, _, _, _, hu3, htd3, _⟩ := tOf hT he
      obtain rfl := tdb_int htd3
      split at h
      · rename_i c' n cs hrow
        split at h
        · rename_i l hl
          cases h
          obtain ⟨hc1, hc2⟩ := hc
          refine snd_pure hH (key (.string ⟨l.toArray⟩) ?_) rfl
          rcases rowOf_ok (P := P) (T := T) hT hH (sz := 1) ha hrow hc1 hc2 with ⟨rfl, ao, cc, hx⟩ | ⟨ad, cc, hx, vs, hvl, hvs, hrun⟩
          · have : l = [] := by simpa [bytesOf] using hl.symm
            subst this
            rw [hx, run_convert_bytes_string C.w s d e ao 0 cc hu' hu3 hu]
            cases ao with
            | none => rfl
            | some ad => rw [run_bytesToString C.w ad 0 cc [] (by rfl)]; rfl
          · obtain ⟨ns, rfl, rfl⟩ := bytesOf_ok _ _ _ hl hvs
            rw [hx, run_convert_bytes_string C.w s d e _ n cc hu' hu3 hu, run_bytesToString C.w ad n cc ns hrun]
            have := foldl_push ns []
            simp only [List.nil_append] at this
            show Result.ok (Value.string (ns.foldl _ ⟨([] : List UInt8).toArray⟩)) _ = _
            rw [this]
        · cases h
      · cases h
    · cases h
  · cases h

omit hH hT in
theorem vrs_map (l : List Operand) (ev : Operand → AV) (hev : ∀ x ∈ l, VR C (ev x) (ρ x)) : VRs C (l.map ev) (l.map ρ) := by
  rw [vrs_iff]
  refine ⟨by simp, fun i x hx => ?_⟩
  rw [List.getElem?_map] at hx ⊢
  cases hy : l[i]? with
  | none => rw [hy] at hx; simp at hx
  | some y => rw [hy] at hx; simp at hx; subst hx; exact ⟨ρ y, rfl, hev y (List.mem_of_getElem? hy)⟩

theorem aop_ok {ev : Operand → AV} (hev : ∀ x ∈ o.op.operands.toList, VR C (ev x) (ρ x)) {id : Nat} (hid : C.g id = .hole)
    {c : Prop} {v : AV} {up : List (Nat × Blk)} (h : aop T o.op ev C.g id = some (c, v, up)) (hc : c) : Snd C ((execOp ρ o).run P C.w) v up := by
  unfold aop at h
  split at h
  · rename_i x ho; cases h; exact snd_pure hH (u := ρ x) (by simp only [execOp, ho]; rfl) (hev x (by simp [ho, Op.operands]))
  · rename_i x ho; cases h; exact snd_pure hH (u := ρ x) (by simp only [execOp, ho]; rfl) (hev x (by simp [ho, Op.operands]))
  · rename_i x y z ho
    exact aPick_ok (T := T) hT hH ho (hev x (by simp [ho, Op.operands])) (hev y (by simp [ho, Op.operands])) (hev z (by simp [ho, Op.operands])) h hc
  · rename_i t ho; exact aAlloc_ok hT hH ho hid h hc
  · rename_i t x ho; exact aBox_ok hT hH ho (hev x (by simp [ho, Op.operands])) hid h hc
  · rename_i t parts ho
    exact aBuild_ok hT hH ho (fun p hp => hev p.2 (by simp only [ho, Op.operands]; simp; exact ⟨p.1, by simpa using hp⟩)) h hc
  · rename_i t n parts ho
    exact aBuildSlice_ok hT hH ho (fun p hp => hev p.2 (by simp only [ho, Op.operands]; simp; exact ⟨p.1, by simpa using hp⟩)) hid h hc
  · rename_i t x ho; exact aLoad_ok hT hH ho (hev x (by simp [ho, Op.operands])) h hc
  · rename_i t x y ho; exact aStore_ok hT hH ho (hev x (by simp [ho, Op.operands])) (hev y (by simp [ho, Op.operands])) h hc
  · rename_i x ho; exact aNilCheck_ok (T := T) hT hH ho (hev x (by simp [ho, Op.operands])) h hc
  · rename_i op t x y t2 ho; exact aBinOp_ok hT hH ho (hev x (by simp [ho, Op.operands])) (hev y (by simp [ho, Op.operands])) h hc
  · rename_i op t x ho; exact aUn_ok (T := T) hT hH ho (hev x (by simp [ho, Op.operands])) h hc
  · rename_i s d x ho; exact aConv_ok hT hH ho (hev x (by simp [ho, Op.operands])) h hc
  · rename_i fn first cap ho
    split at h
    · rename_i f hf
      cases h
      have hf0 : first = #[] := Array.eq_empty_of_size_eq_zero hf
      subst hf0
      refine snd_pure hH (u := .func (.func f) #[] (cap.map ρ)) (by simp only [execOp, ho, Instr.makeFunc, Array.map_empty, Sem.run_bind, Sem.run_pure, Result.andThen_ok]) ⟨cap.map ρ, rfl, ?_⟩
      rw [Array.toList_map]
      exact vrs_map cap.toList ev (fun x hx => hev x (by simp only [ho, Op.operands]; simpa using hx))
    · cases h
  · rename_i t r ho
    split at h
    · cases h; exact aMakeMap_ok hT hH ho hid
    · cases h
  · rename_i t x y ho; exact aMakeSlice_ok hT hH ho (hev x (by simp [ho, Op.operands])) (hev y (by simp [ho, Op.operands])) hid h hc
  · rename_i t x lo hi mx ho
    exact aSlice_ok hT hH ho (hev x (by simp [ho, Op.operands])) (fun y hy => hev y (by simp [ho, Op.operands, hy])) (fun y hy => hev y (by simp [ho, Op.operands, hy])) (fun y hy => hev y (by simp [ho, Op.operands, hy])) h hc
  · rename_i s x f ho; exact aFieldAddr_ok hT hH ho (hev x (by simp [ho, Op.operands])) h hc
  · rename_i s x f ho; exact aField_ok hT hH ho (hev x (by simp [ho, Op.operands])) h hc
  · rename_i t x y ho; exact aIndexAddr_ok hT hH ho (hev x (by simp [ho, Op.operands])) (hev y (by simp [ho, Op.operands])) h hc
  · rename_i t x y ho; exact aIndex_ok hT hH ho (hev x (by simp [ho, Op.operands])) (hev y (by simp [ho, Op.operands])) h hc
  · rename_i t x k ho; exact aLookup_ok hT hH ho (hev x (by simp [ho, Op.operands])) (hev k (by simp [ho, Op.operands])) h hc
  · rename_i t x y z ho; exact aMapUpdate_ok hT hH (.inl ho) (hev x (by simp [ho, Op.operands])) (hev y (by simp [ho, Op.operands])) (hev z (by simp [ho, Op.operands])) h hc
  · rename_i t x y z ho; exact aMapUpdate_ok hT hH (.inr ho) (hev x (by simp [ho, Op.operands])) (hev y (by simp [ho, Op.operands])) (hev z (by simp [ho, Op.operands])) h hc
  · rename_i x k ho; exact aExtract_ok (T := T) hT hH ho (hev x (by simp [ho, Op.operands])) h hc
  · rename_i t x ho
    have fin : P.concrete t = true → c = True → v = .err false → up = [] → Snd C ((execOp ρ o).run P C.w) v up := fun hcon _ h2 h3 => by
      subst h2 h3
      refine snd_pure hH (u := .iface t (ρ x)) (by simp only [execOp, ho, Sem.run_bind, run_makeInterface C.w t (ρ x) hcon, Result.andThen_ok, Sem.run_pure]) ?_
      simp [VR, VD]
    unfold aMkI at h
    split at h
    · rename_i sz by_ ag z hti
      obtain ⟨inf, d, _, _, _, _, hu, htd, _⟩ := tOf hT hti
      cases h
      exact fin (by cases d <;> simp [tdb] at htd <;> simp [Program.concrete, hu]) rfl rfl rfl
    · rename_i sz by_ ag z hti
      obtain ⟨inf, d, _, _, _, _, hu, htd, _⟩ := tOf hT hti
      cases h
      exact fin (by cases d <;> simp [tdb] at htd <;> simp [Program.concrete, hu]) rfl rfl rfl
    · rename_i sz by_ ag z k hti
      obtain ⟨inf, d, _, _, _, _, hu, htd, _⟩ := tOf hT hti
      cases h
      exact fin (by cases d <;> simp [tdb] at htd <;> simp [Program.concrete, hu]) rfl rfl rfl
    · cases h
  · rename_i cl ho
    split at h
    · rename_i x t ts hcl harg hty
      exact aLen_ok hT hH ho hcl harg hty (hev x (by simp [ho, Op.operands, Call.operands, hcl, harg])) h hc
    · rename_i x y st xt hcl harg hty
      exact aAppend_ok hT hH ho hcl harg hty (hev x (by simp [ho, Op.operands, Call.operands, hcl, harg])) (hev y (by simp [ho, Op.operands, Call.operands, hcl, harg])) hid h hc
    · rename_i x t ts hcl harg hty
      exact aCap_ok hT hH ho hcl harg hty (hev x (by simp [ho, Op.operands, Call.operands, hcl, harg])) h hc
    · rename_i x y t ts hcl harg hty
      exact aCopy_ok hT hH ho hcl harg hty (hev x (by simp [ho, Op.operands, Call.operands, hcl, harg])) (hev y (by simp [ho, Op.operands, Call.operands, hcl, harg])) h hc
    · cases h
  · cases h

end
end Go.Proofs.Ytdacfgclclpooaa
