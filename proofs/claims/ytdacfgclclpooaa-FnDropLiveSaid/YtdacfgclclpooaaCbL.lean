/- The abstract operations tell the truth, 7: make, maps, conversions; and all of them. Conditions: the table of types fits the program. -/
import Derived.Test.YtdacfgclclpooaaCbK
import Derived.Laws.BytesString
namespace Go.Proofs.Ytdacfgclclpooaa
open Go Go.RowKit
set_option linter.unusedVariables false
set_option linter.unusedSimpArgs false
set_option linter.unusedSectionVars false

theorem ba_beq (a b : List UInt8) : ((⟨a.toArray⟩ : ByteArray) == ⟨b.toArray⟩) = decide (a = b) := by
  show (a.toArray == b.toArray) = _
  rw [Bool.eq_iff_iff]
  simp

/-- Where a key stands. -/
def mfind : List (List UInt8 × Bool) → List UInt8 → Option (Nat × Bool)
  | [], _ => none
  | (x, v) :: r, k => if k = x then some (0, v) else (mfind r k).map fun p => (p.1 + 1, p.2)

theorem mlook_eq : ∀ (es : List (List UInt8 × Bool)) (k : List UInt8), mlook es k = (mfind es k).map (·.2)
  | [], k => rfl
  | (x, v) :: r, k => by
    rw [mlook, mfind]
    split
    · rfl
    · rw [mlook_eq r k]; cases mfind r k <;> rfl

def encE (e : List UInt8 × Bool) : Value × Value := (Value.string ⟨e.1.toArray⟩, Value.bool e.2)

theorem findNow_ok : ∀ (ens : List MapEntry) (es : List (List UInt8 × Bool)) (k : List UInt8) (i : Nat), ens.map (fun e => (e.key, e.val)) = es.map encE →
    Instr.findNow .string (.string ⟨k.toArray⟩) ens i = some ((mfind es k).map fun p => (i + p.1, .bool p.2))
  | [], es, k, i, h => by
    cases es with
    | nil => rfl
    | cons a b => simp at h
  | e :: ens, es, k, i, h => by
    cases es with
    | nil => simp at h
    | cons a es =>
      obtain ⟨x, v⟩ := a
      simp only [List.map_cons, List.cons.injEq, encE, Prod.mk.injEq] at h
      obtain ⟨⟨hk, hv⟩, hr⟩ := h
      rw [Instr.findNow, hk]
      simp only [Instr.sameNow, ba_beq]
      rw [mfind]
      by_cases hkx : k = x
      · simp only [hkx, decide_true, if_true, Option.map_some, Nat.add_zero, hv]
      · simp only [hkx, decide_false, if_false]
        rw [findNow_ok ens es k (i + 1) hr]
        cases mfind es k with
        | none => rfl
        | some p => simp only [Option.map_some]; congr 3; omega

theorem mput_new : ∀ (es : List (List UInt8 × Bool)) (k : List UInt8) (v : Bool), mfind es k = none → mput es k v = es ++ [(k, v)]
  | [], k, v, h => rfl
  | (x, u) :: r, k, v, h => by
    rw [mfind] at h
    rw [mput]
    split at h
    · cases h
    · rename_i hne
      rw [if_neg hne, mput_new r k v (by cases hm : mfind r k with | none => rfl | some p => rw [hm] at h; cases h)]
      rfl

theorem mput_old : ∀ (es : List (List UInt8 × Bool)) (k : List UInt8) (v : Bool) (j : Nat) (u : Bool), mfind es k = some (j, u) → mput es k v = es.modify j (fun _ => (k, v)) ∧ ∃ x, es[j]? = some (k, x)
  | [], k, v, j, u, h => by cases h
  | (x, w) :: r, k, v, j, u, h => by
    rw [mfind] at h
    rw [mput]
    split at h
    · rename_i hkx
      cases h
      rw [if_pos hkx]
      exact ⟨by simp [List.modify], w, by simp [hkx]⟩
    · rename_i hne
      rw [if_neg hne]
      cases hm : mfind r k with
      | none => rw [hm] at h; cases h
      | some p =>
        rw [hm] at h
        simp at h
        obtain ⟨h1, h2⟩ := h
        obtain ⟨h3, y, h4⟩ := mput_old r k v p.1 p.2 hm
        rw [h3, ← h1]
        exact ⟨by simp, y, by simpa using h4⟩

section
variable {P : Program} {T : TT} (hT : TOk P T) {C : Cx} (hH : HR C) {o : Oper} {ρ : Operand → Value}
include hT hH

theorem aMakeSlice_ok {t : Nat} {x y : Operand} (ho : o.op = .makeSlice t x y) {a b : AV} (ha : VR C a (ρ x)) (hb : VR C b (ρ y)) {id : Nat} (hid : C.g id = .hole)
    {c : Prop} {v : AV} {up : List (Nat × Blk)} (h : aMakeSlice T id t a b = some (c, v, up)) (hc : c) : Snd C ((execOp ρ o).run P C.w) v up := by
  unfold aMakeSlice at h
  split at h
  · rename_i sz by_ ag z e n m hti
    obtain ⟨inf, d, _, _, _, _, hu, htd, _⟩ := tOf hT hti
    obtain rfl := tdb_slice htd
    split at h
    · rename_i ei he
      obtain ⟨inf', d', hi', hsz', hby', ⟨zv, hz, hzo⟩, _⟩ := tOf hT he
      split at h
      · rename_i zc hzc
        split at h
        · rename_i hcond
          cases h
          obtain ⟨hc0, hc1, hc2⟩ := hc
          have hzr : VR C ei.zero zv := by rw [← hzo]; exact ofV_vr C zv
          obtain ⟨hzl, hzx⟩ := (vrs_iff _ _).1 (vr_cells hzr hzc)
          obtain ⟨zu, hzu, hzur⟩ := hzx 0 zc rfl
          have hzs : zv.cells.size = 1 := by simpa using hzl.symm
          have hx := vr_i ha
          have hy := vr_i hb
          have hlim : (m : Int) ≤ 4294967296 := hc2
          have wn : IntKind.wrap .i64 n = n := wrap_in (by omega) (by omega)
          have wm : IntKind.wrap .i64 m = m := wrap_in (by omega) (by omega)
          have hbm : ¬ (((ei.bytes : Int) * m) > 2 ^ 48) := by
            have h1 : (ei.bytes : Int) * m ≤ 128 * 4294967296 := by
              apply Int.mul_le_mul <;> omega
            omega
          have hc3 : ¬ (m < 0) := by omega
          have hc4 : ¬ (n < 0) := by omega
          have hc5 : ¬ (n > m) := by omega
          obtain ⟨hle, hhr⟩ := new_block hH hid (.cells 1 (List.replicate m.toNat zc)) (.cells ((Array.range m.toNat).map (zv.cells[· % zv.cells.size]!)) e (0, 0)) ⟨_, e, rfl, by simp, fun i q hq => by
              have hi : i < m.toNat := by
                rcases Nat.lt_or_ge i m.toNat with h' | h'
                · exact h'
                · rw [List.getElem?_eq_none (by simpa using h')] at hq; cases hq
              rw [List.getElem?_replicate, if_pos hi] at hq
              cases hq
              refine ⟨zu, ?_, hzur⟩
              rw [Array.getElem?_map, Array.getElem?_range, if_pos hi]
              simp only [Option.map_some, hzs, Nat.mod_one]
              rw [Array.getElem?_toList] at hzu
              rw [getElem!_def, hzu]⟩
          refine ⟨.value (.slice (some ⟨C.w.heap.size, 0, none⟩) n.toNat m.toNat), C.w.alloc (.cells ((Array.range m.toNat).map (zv.cells[· % zv.cells.size]!)) e (0, 0)), ?_, _, rfl, _, ⟨_, _, rfl, by omega, by omega, ?_, fun sz cs1 hg => ?_⟩, hhr, hle⟩
          · simp only [execOp, ho, Instr.makeSlice, Sem.run_bind, Result.andThen_ok, run_und hu, hx, hy, asInt, asIntOf, Sem.run_pure, run_inf hi', hby', wn, wm, hc3, hc4, hc5, hbm, decide_false, Bool.or_self, Bool.false_eq_true, or_self, if_false, run_askRoom, run_sz hi', hsz', hcond.1, Nat.mul_one]
            by_cases h0 : m.toNat = 0
            · simp only [h0, if_true, Sem.run_pure, Result.andThen_ok, newRow, Sem.run_bind, run_newObj, World.alloc_eq]
              have hr0 : Array.range 0 = #[] := by simp
              rw [hr0, Array.map_empty, Array.map_empty]
            · simp only [h0, if_false, Sem.run_bind, run_zero hi' hz, Sem.run_pure, Result.andThen_ok, newRow, run_newObj, World.alloc_eq]
          · show upd1 C.g id _ id ≠ _; rw [upd1_same]; simp
          · have hg' : upd1 C.g id (.cells 1 (List.replicate m.toNat zc)) id = .cells sz cs1 := hg
            rw [upd1_same] at hg'; cases hg'
            refine ⟨by simp, fun _ => ?_⟩
            rcases Nat.eq_zero_or_pos m.toNat with hmz | hmz
            · exact .inl ⟨by rw [hmz]; rfl, hmz⟩
            refine .inr ⟨fun z => by have := congrArg List.length z; simp at this; omega, (Array.range m.toNat).map (zv.cells[· % zv.cells.size]!), e, ?_, .inr ⟨?_, by simp⟩⟩
            · show (C.w.heap.push _)[upd1 C.φ id C.w.heap.size id]? = _; rw [upd1_same]; simp
            · show _ = some (⟨upd1 C.φ id C.w.heap.size id, 0, none⟩ : Addr); rw [upd1_same]
        · cases h
      · cases h
    · cases h
  · cases h

theorem aMakeMap_ok {t : Nat} (ho : o.op = .makeMap t none) {id : Nat} (hid : C.g id = .hole) : Snd C ((execOp ρ o).run P C.w) (.mp id) [(id, .map [])] := by
  obtain ⟨hle, hhr⟩ := new_block hH hid (.map []) (.map #[] 0) ⟨#[], 0, rfl, rfl⟩
  refine ⟨.value (.map (some C.w.heap.size)), C.w.alloc (.map #[] 0), ?_, _, rfl, _, ⟨_, rfl, ?_, fun es hg => ?_⟩, hhr, hle⟩
  · simp only [execOp, ho, Instr.makeMap, Option.map_none, Sem.run_bind, Sem.run_pure, Result.andThen_ok, run_newObj, World.alloc_eq]
  · show upd1 C.g id _ id ≠ _; rw [upd1_same]; simp
  · show _ = upd1 C.φ id C.w.heap.size id; rw [upd1_same]

theorem checkKey_str {kt : Nat} (hk : P.underlying kt = some .string) (em : Bool) (n : Nat) (s : ByteArray) (w : World) : (Instr.checkKey em (n + 1) kt (.string s)).run P w = .ok () w := by
  simp [Instr.checkKey, run_und hk]

theorem aMapUpdate_ok {t : Nat} {x y z : Operand} (ho : o.op = .mapUpdate t x y z ∨ o.op = .insert t x y z) {m k y9 : AV} (hm : VR C m (ρ x)) (hk : VR C k (ρ y)) (hu' : VR C y9 (ρ z))
    {c : Prop} {v : AV} {up : List (Nat × Blk)} (h : aMapUpdate T C.g t m k y9 = some (c, v, up)) (hc : c) : Snd C ((execOp ρ o).run P C.w) v up := by
  unfold aMapUpdate at h
  split at h
  · rename_i sz by_ ag zz kt et b key val hti
    obtain ⟨inf, d, _, _, _, _, hu, htd, _⟩ := tOf hT hti
    obtain rfl := tdb_map htd
    split at h
    · rename_i sz1 by1 ag1 z1 es hkt hg
      obtain ⟨inf1, d1, _, _, _, _, hu1, htd1, _⟩ := tOf hT hkt
      obtain rfl := tdb_str htd1
      cases h
      obtain ⟨r, hx, h1, h2⟩ := hm
      obtain rfl := h2 es hg
      have hy := vr_s hk
      have hz := vr_b hu'
      have h0 := hH.blk b
      rw [hg] at h0
      obtain ⟨hlt, hnb, ens, clock, hheap, hents⟩ := h0
      have hfind := findNow_ok ens.toList es key 0 hents
      have hgo : (getObj (C.φ b)).run P C.w = .ok (.map ens clock) C.w := by simp [getObj, Sem.run, hheap]
      have hexec : (execOp ρ o).run P C.w = ((Instr.mapUpdate t (ρ x) (ρ y) (ρ z)).run P C.w).andThen fun _ w' => .ok .skip w' := by
        rcases ho with ho | ho <;> simp only [execOp, ho, Sem.run_bind, Sem.run_pure]
      have fin : ∀ (ens' : Array MapEntry) (clock' : Nat), (Instr.mapUpdate t (ρ x) (ρ y) (ρ z)).run P C.w = .ok () { C.w with heap := C.w.heap.setIfInBounds (C.φ b) (.map ens' clock') } →
          ens'.toList.map (fun e => (e.key, e.val)) = (mput es key val).map encE → Snd C ((execOp ρ o).run P C.w) (.tup []) [(b, .map (mput es key val))] := fun ens' clock' hrun hrel => by
        obtain ⟨hle, hhr⟩ := upd_block (C := C) hH (b := b) (blk := .map (mput es key val)) { C.w with heap := C.w.heap.setIfInBounds (C.φ b) (.map ens' clock') } (C.φ b) (.inl (by rw [hg]; rfl)) rfl rfl rfl (by simp)
          (fun c _ hne => by simp [Array.getElem?_setIfInBounds_ne (Ne.symm hne)]) (.inl rfl) (by simpa using hlt)
          ⟨⟨es, hg⟩, rfl, ens', clock', by simp [hlt], hrel⟩
        exact ⟨.skip, _, by rw [hexec, hrun]; rfl, undef, rfl, _, ⟨#[], rfl, rfl⟩, hhr, hle⟩
      have hset : ∀ o', (setObj (C.φ b) o').run P C.w = .ok () { C.w with heap := C.w.heap.setIfInBounds (C.φ b) o' } := fun o' => by simp [setObj, Sem.run, hheap]
      cases hmf : mfind es key with
      | none =>
        rw [hmf] at hfind
        refine fin (ens.push { key := ρ y, val := ρ z, born := clock }) (clock + 1) ?_ ?_
        · simp only [Instr.mapUpdate, Sem.run_bind, run_und hu, Result.andThen_ok, hx, hgo, hy, checkKey_str hT hH hu1, Instr.findKey, run_und hu1, hfind, Option.map_none, Sem.run_pure, hset]
        · rw [mput_new es key val hmf]
          simp only [Array.toList_push, List.map_append, List.map_cons, List.map_nil, hy, hz]
          rw [show ens.toList.map (fun e => (e.key, e.val)) = es.map encE from hents]
          rfl
      | some p =>
        obtain ⟨j, u0⟩ := p
        rw [hmf] at hfind
        obtain ⟨hput, x0, hx0⟩ := mput_old es key val j u0 hmf
        have hentj : ∃ e0, ens[j]? = some e0 ∧ e0.key = .string ⟨key.toArray⟩ := by
          have h5 : (ens.toList.map (fun e => (e.key, e.val)))[j]? = (es.map encE)[j]? := by rw [show ens.toList.map (fun e => (e.key, e.val)) = es.map encE from hents]
          rw [List.getElem?_map, List.getElem?_map, hx0] at h5
          cases he : ens.toList[j]? with
          | none => rw [he] at h5; simp at h5
          | some e0 =>
            rw [he] at h5
            simp [encE] at h5
            exact ⟨e0, by simpa using he, h5.1⟩
        obtain ⟨e0, he0, hek⟩ := hentj
        refine fin (ens.modify j fun e => { e with key := ρ y, val := ρ z }) clock ?_ ?_
        · have hstay : (Instr.keyThatStays (.string ⟨key.toArray⟩) (.string ⟨key.toArray⟩)).run P C.w = .ok (.string ⟨key.toArray⟩) C.w := by
            have hb : Instr.sameBits 10000 (.string ⟨key.toArray⟩) (.string ⟨key.toArray⟩) = true := by show ((⟨key.toArray⟩ : ByteArray) == ⟨key.toArray⟩) = true; rw [ba_beq]; simp
            simp only [Instr.keyThatStays, hb, if_true, Sem.run_pure]
          simp only [Instr.mapUpdate, Sem.run_bind, run_und hu, Result.andThen_ok, hx, hgo, hy, checkKey_str hT hH hu1, Instr.findKey, run_und hu1, hfind, Option.map_some, Sem.run_pure, Nat.zero_add, he0, Option.getD_some, hek, hstay, hset]
        · rw [hput]
          apply List.ext_getElem?
          intro i
          have h5 : (ens.toList.map (fun e => (e.key, e.val)))[i]? = (es.map encE)[i]? := by rw [show ens.toList.map (fun e => (e.key, e.val)) = es.map encE from hents]
          rw [List.getElem?_map, List.getElem?_map] at h5
          rw [List.getElem?_map, List.getElem?_map, Array.getElem?_toList, Array.getElem?_modify, List.getElem?_modify]
          rw [Array.getElem?_toList] at h5
          by_cases hij : j = i
          · subst hij
            simp only [if_true, he0, hx0, Option.map_some, hy, hz]
            rfl
          · simp only [hij, if_false]
            have e1 : (fun a : MapEntry => a) <$> ens[i]? = ens[i]? := by cases ens[i]? <;> rfl
            have e2 : (fun a : List UInt8 × Bool => a) <$> es[i]? = es[i]? := by cases es[i]? <;> rfl
            first
              | exact h5
              | (rw [e2]; exact h5)
    · cases h
  · cases h

theorem aLookup_ok {t : Nat} {x y : Operand} (ho : o.op = .lookup t x y false) {m k : AV} (hm : VR C m (ρ x)) (hk : VR C k (ρ y))
    {c : Prop} {v : AV} {up : List (Nat × Blk)} (h : aLookup T C.g t m k = some (c, v, up)) (hc : c) : Snd C ((execOp ρ o).run P C.w) v up := by
  unfold aLookup at h
  split at h
  · rename_i sz by_ ag zz kt et b key hti
    obtain ⟨inf, d, _, _, _, _, hu, htd, _⟩ := tOf hT hti
    obtain rfl := tdb_map htd
    split at h
    · rename_i sz1 by1 ag1 z1 sz2 by2 ag2 d2 es hkt het hg
      obtain ⟨inf1, d1, _, _, _, _, hu1, htd1, _⟩ := tOf hT hkt
      obtain rfl := tdb_str htd1
      obtain ⟨inf2, d2', hi2, _, _, ⟨zv, hz2, hzo⟩, _⟩ := tOf hT het
      have hzv : zv = .bool false := by have := ofV_vr C zv; rw [hzo] at this; exact vr_b this
      subst hzv
      cases h
      obtain ⟨r, hx, h1, h2⟩ := hm
      obtain rfl := h2 es hg
      have hy := vr_s hk
      have h0 := hH.blk b
      rw [hg] at h0
      obtain ⟨hlt, hnb, ens, clock, hheap, hents⟩ := h0
      have hfind := findNow_ok ens.toList es key 0 hents
      have hgo : (getObj (C.φ b)).run P C.w = .ok (.map ens clock) C.w := by simp [getObj, Sem.run, hheap]
      refine snd_pure hH (u := .bool ((mlook es key).getD false)) ?_ rfl
      cases hmf : mfind es key with
      | none =>
        rw [hmf] at hfind
        rw [mlook_eq, hmf]
        simp only [execOp, ho, Instr.lookup, Sem.run_bind, run_und hu, Result.andThen_ok, hx, hgo, hy, Sem.run_pure, checkKey_str hT hH hu1, Instr.findKey, run_und hu1, hfind, Option.map_none, run_zero hi2 hz2, Bool.false_eq_true, if_false, Option.getD_none]
      | some p =>
        rw [hmf] at hfind
        rw [mlook_eq, hmf]
        simp only [execOp, ho, Instr.lookup, Sem.run_bind, run_und hu, Result.andThen_ok, hx, hgo, hy, Sem.run_pure, checkKey_str hT hH hu1, Instr.findKey, run_und hu1, hfind, Option.map_some, Bool.false_eq_true, if_false, Option.getD_some]
    · cases h
  · cases h

end
end Go.Proofs.Ytdacfgclclpooaa
