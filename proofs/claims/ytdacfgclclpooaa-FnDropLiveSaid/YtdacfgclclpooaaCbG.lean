/- The abstract operations tell the truth, 2: addresses, parts, arithmetic. Conditions: the table of types fits the program. -/
import Derived.Test.YtdacfgclclpooaaCbF
import Derived.Laws.Slices
namespace Go.Proofs.Ytdacfgclclpooaa
open Go Go.RowKit
set_option linter.unusedVariables false
set_option linter.unusedSimpArgs false
set_option linter.unusedSectionVars false

theorem tdb_struct {d : TypeDesc} {fs : List (Nat × Nat)} (h : tdb d (.struct fs) = true) : ∃ fs' : Array Field, d = .struct fs' ∧ fs'.toList.map (fun f => (f.offset, f.type)) = fs := by
  cases d <;> simp [tdb] at h
  exact ⟨_, rfl, h⟩
theorem tdb_slice {d : TypeDesc} {e : Nat} (h : tdb d (.slice e) = true) : d = .slice e := by
  cases d <;> simp [tdb] at h
  rw [h]
theorem tdb_arr {d : TypeDesc} {n e : Nat} (h : tdb d (.arr n e) = true) : d = .array n e := by
  cases d <;> simp [tdb] at h
  rw [h.1, h.2]
theorem tdb_str {d : TypeDesc} (h : tdb d .str = true) : d = .string := by
  cases d <;> simp [tdb] at h
  rfl
theorem tdb_bool {d : TypeDesc} (h : tdb d .bool = true) : d = .bool := by
  cases d <;> simp [tdb] at h
  rfl
theorem tdb_iface {d : TypeDesc} (h : tdb d .iface = true) : ∃ ms, d = .interface ms := by
  cases d <;> simp [tdb] at h
  exact ⟨_, rfl⟩
theorem tdb_int {d : TypeDesc} {k : IntKind} (h : tdb d (.int k) = true) : d = .int k := by
  cases d <;> simp [tdb] at h
  rw [h]
theorem tdb_map {d : TypeDesc} {k e : Nat} (h : tdb d (.map k e) = true) : d = .map k e := by
  cases d <;> simp [tdb] at h
  rw [h.1, h.2]

section
variable {P : Program} {T : TT} (hT : TOk P T) {C : Cx} (hH : HR C) {o : Oper} {ρ : Operand → Value}
include hT

theorem tOf {t : Nat} {ti : TI} (h : T t = some ti) : ∃ inf d, P.info? t = some inf ∧ inf.size = ti.size ∧ inf.bytes = ti.bytes ∧ (∃ z, inf.zero = some z ∧ ofV z = ti.zero) ∧ P.underlying t = some d ∧ tdb d ti.d = true ∧ aggD d = ti.agg := by
  obtain ⟨⟨inf, h1, h2, h3, h4⟩, d, h5, h6, h7⟩ := hT t ti h
  exact ⟨inf, d, h1, h2, h3, h4, h5, h6, h7⟩

theorem field_ok {s f : Nat} {fo : Nat} {fi : TI} (h : fieldOf T s f = some (fo, fi)) : ∃ (fs : Array Field) (fl : Field), P.underlying s = some (.struct fs) ∧ fs[f]? = some fl ∧ fl.offset = fo ∧ T fl.type = some fi := by
  unfold fieldOf at h
  split at h
  · rename_i sz by_ ag z fs hs
    obtain ⟨inf, d, _, _, _, _, hu, htd, _⟩ := tOf hT hs
    obtain ⟨fs', rfl, hfs⟩ := tdb_struct htd
    split at h
    · rename_i off ft hf
      split at h
      · rename_i fi' hft
        cases h
        rw [← hfs, List.getElem?_map] at hf
        cases hx : fs'.toList[f]? with
        | none => rw [hx] at hf; simp at hf
        | some fl =>
          rw [hx] at hf
          simp at hf
          obtain ⟨rfl, rfl⟩ := hf
          exact ⟨fs', fl, hu, by simpa using hx, rfl, hft⟩
      · cases h
    · cases h
  · cases h

include hH

theorem aFieldAddr_ok {s f : Nat} {x : Operand} (ho : o.op = .fieldAddr s x f) {a : AV} (ha : VR C a (ρ x))
    {c : Prop} {v : AV} {up : List (Nat × Blk)} (h : aFieldAddr T s a f = some (c, v, up)) (hc : c) : Snd C ((execOp ρ o).run P C.w) v up := by
  unfold aFieldAddr at h
  split at h
  · rename_i fo fi hf
    obtain ⟨fs, fl, hu, hfl, rfl, hft⟩ := field_ok hT hf
    obtain ⟨inf, _, hi, hsz, _⟩ := tOf hT hft
    split at h
    · cases h
    · rename_i hsz0
      have hplace : ∀ (a : Addr) (w : World), (fieldPlace a fl).run P w = .ok (a.add fl.offset) w := fun a w => by
        simp only [fieldPlace, Sem.run_bind, run_sz hi, Result.andThen_ok, hsz, hsz0, if_false, Sem.run_pure]
      split at h
      · rename_i b off len
        cases h
        obtain ⟨ad, hρ, h3, h4⟩ := ha
        refine snd_pure hH (u := .pointer (some (ad.add fl.offset))) ?_ ⟨_, rfl, h3, fun sz cs hg => ?_⟩
        · simp only [execOp, ho, hρ, Instr.fieldAt, Instr.sureAddr, Sem.run_bind, Sem.run_pure, Result.andThen_ok, run_und hu, hfl, hplace]
        · obtain ⟨h5, h6⟩ := h4 sz cs hg
          exact ⟨h5, fun e => by rw [h6 e, add_off]⟩
      · rename_i t cs off
        cases h
        obtain ⟨blk, base, hρ, h3⟩ := ha
        refine snd_pure hH (u := .pointer (some ⟨blk, base + (off + fl.offset), none⟩)) ?_ ⟨blk, base, rfl, h3⟩
        simp only [execOp, ho, hρ, Instr.fieldAt, Instr.sureAddr, Sem.run_bind, Sem.run_pure, Result.andThen_ok, run_und hu, hfl, hplace, add_off, Nat.add_assoc]
      · cases h
  · cases h

theorem vrs_part {cs : List AV} {vs : Array Value} (h : VRs C cs vs.toList) (off n : Nat) : VRs C ((cs.drop off).take n) (vs.extract off (off + n)).toList := by
  rw [vrs_iff] at h ⊢
  obtain ⟨hl, h⟩ := h
  refine ⟨by simp at hl ⊢; omega, fun i x hx => ?_⟩
  rw [List.getElem?_take] at hx
  split at hx
  · rename_i hin
    rw [List.getElem?_drop] at hx
    obtain ⟨v, hv, hr⟩ := h _ _ hx
    refine ⟨v, ?_, hr⟩
    rw [Array.getElem?_toList, Array.getElem?_extract]
    rw [Array.getElem?_toList] at hv
    have hlt : off + i < vs.size := by
      rcases Nat.lt_or_ge (off + i) vs.size with h' | h'
      · exact h'
      · simp [Array.getElem?_eq_none h'] at hv
    rw [if_pos (by omega)]
    exact hv
  · cases hx

theorem aField_ok {s f : Nat} {x : Operand} (ho : o.op = .field s x f) {a : AV} (ha : VR C a (ρ x))
    {c : Prop} {v : AV} {up : List (Nat × Blk)} (h : aField T s a f = some (c, v, up)) (hc : c) : Snd C ((execOp ρ o).run P C.w) v up := by
  unfold aField at h
  split at h
  · rename_i fo fi cs hf
    obtain ⟨fs, fl, hu, hfl, rfl, hft⟩ := field_ok hT hf
    obtain ⟨inf, d, hi, hsz, _, _, hu', _, hag⟩ := tOf hT hft
    obtain ⟨vs, hρ, hv⟩ := ha
    split at h
    · rename_i hagg
      cases h
      refine snd_pure hH (u := .agg (vs.extract fl.offset (fl.offset + fi.size))) ?_ ⟨_, rfl, vrs_part hT hH hv _ _⟩
      simp only [execOp, ho, hρ, Instr.field, asAgg, part, Sem.run_bind, Sem.run_pure, Result.andThen_ok, run_und hu, hfl, run_agg hu', hag, hagg, if_true, run_sz hi, hsz]
    · rename_i hagg
      have hagf : fi.agg = false := by simpa using hagg
      cases h
      obtain ⟨hl, h3⟩ := (vrs_iff _ _).1 hv
      obtain ⟨u, hu1, hu2⟩ := h3 fl.offset cs[fl.offset] (by simp)
      refine snd_pure hH (u := u) ?_ (by rw [List.getD_eq_getElem?_getD, List.getElem?_eq_getElem hc]; exact hu2)
      rw [Array.getElem?_toList] at hu1
      simp only [execOp, ho, hρ, Instr.field, asAgg, part, Sem.run_bind, Sem.run_pure, Result.andThen_ok, run_und hu, hfl, run_agg hu', hag, hagf, Bool.false_eq_true, if_false, hu1]
  · cases h

theorem aIndexAddr_ok {t : Nat} {x y : Operand} (ho : o.op = .indexAddr t x y) {a ix : AV} (ha : VR C a (ρ x)) (hix : VR C ix (ρ y))
    {c : Prop} {v : AV} {up : List (Nat × Blk)} (h : aIndexAddr T C.g t a ix = some (c, v, up)) (hc : c) : Snd C ((execOp ρ o).run P C.w) v up := by
  unfold aIndexAddr at h
  split at h
  · rename_i k j sz by_ ag z e hti
    obtain ⟨inf, d, _, _, _, _, hu, htd, _⟩ := tOf hT hti
    obtain rfl := tdb_slice htd
    have hy := vr_i hix
    split at h
    · rename_i ei he
      obtain ⟨ei', d', hi', hsz', _⟩ := tOf hT he
      split at h
      · rename_i b off n cap
        split at h
        · rename_i bsz cs hg
          split at h
          · rename_i hbs
            cases h
            obtain ⟨hct, h0, h1⟩ := hc
            obtain ⟨ao, cc, hρ, h2, h3, h4, h5⟩ := ha
            obtain ⟨h6, h7⟩ := h5 _ cs hg
            obtain ⟨_, arr, el, harr, h8⟩ := (h7 hct).resolve_left (fun z => by omega)
            obtain ⟨rfl, h9⟩ := h8.resolve_left (by omega)
            refine snd_pure hH (u := .pointer (some ⟨C.φ b, off + j.toNat * bsz, none⟩)) ?_ ⟨_, rfl, h4, fun sz' cs' hg' => ?_⟩
            · subst hbs
              simp only [execOp, ho, hρ, hy, Instr.indexAt, asIntOf, Sem.run_bind, Sem.run_pure, Result.andThen_ok, run_und hu, h0, h1, and_self, if_true, run_sz hi', hsz', add_off]
            · rw [hg] at hg'; cases hg'; exact ⟨h6, fun _ => rfl⟩
          · cases h
        · cases h
      · rename_i tg n cs
        cases h
        obtain ⟨h0, h1⟩ := hc
        obtain ⟨ao, cc, hρ, h2, h3⟩ := ha
        obtain ⟨hpos, blk, off, rfl, hok, hm⟩ := h3.resolve_left (by omega)
        refine snd_pure hH (u := .pointer (some ⟨blk, off + j.toNat * ei.size, none⟩)) ?_ ⟨blk, off, rfl, .inr ⟨hok, hm⟩⟩
        simp only [execOp, ho, hρ, hy, Instr.indexAt, asIntOf, Sem.run_bind, Sem.run_pure, Result.andThen_ok, run_und hu, h0, h1, and_self, if_true, run_sz hi', hsz', add_off]
      · cases h
    · cases h
  · rename_i k j sz by_ ag z n e hti
    obtain ⟨inf, d, _, _, _, _, hu, htd, _⟩ := tOf hT hti
    obtain rfl := tdb_arr htd
    have hy := vr_i hix
    split at h
    · rename_i ei he
      obtain ⟨ei', d', hi', hsz', _⟩ := tOf hT he
      split at h
      · rename_i b off len
        cases h
        obtain ⟨h0, h1⟩ := hc
        obtain ⟨ad, hρ, h3, h4⟩ := ha
        refine snd_pure hH (u := .pointer (some (ad.add (j.toNat * ei.size)))) ?_ ⟨_, rfl, h3, fun sz cs hg => ?_⟩
        · simp only [execOp, ho, hρ, hy, Instr.indexAt, asIntOf, Instr.sureAddr, Sem.run_bind, Sem.run_pure, Result.andThen_ok, run_und hu, h0, h1, and_self, if_true, run_sz hi', hsz']
        · obtain ⟨h5, h6⟩ := h4 sz cs hg
          exact ⟨h5, fun e => by rw [h6 e, add_off]⟩
      · rename_i tg cs off
        cases h
        obtain ⟨h0, h1⟩ := hc
        obtain ⟨blk, base, hρ, h3⟩ := ha
        refine snd_pure hH (u := .pointer (some ⟨blk, base + (off + j.toNat * ei.size), none⟩)) ?_ ⟨blk, base, rfl, h3⟩
        simp only [execOp, ho, hρ, hy, Instr.indexAt, asIntOf, Instr.sureAddr, Sem.run_bind, Sem.run_pure, Result.andThen_ok, run_und hu, h0, h1, and_self, if_true, run_sz hi', hsz', add_off, Nat.add_assoc]
      · cases h
    · cases h
  · cases h

theorem aIndex_ok {t : Nat} {x y : Operand} (ho : o.op = .index t x y) {a ix : AV} (ha : VR C a (ρ x)) (hix : VR C ix (ρ y))
    {c : Prop} {v : AV} {up : List (Nat × Blk)} (h : aIndex T t a ix = some (c, v, up)) (hc : c) : Snd C ((execOp ρ o).run P C.w) v up := by
  unfold aIndex at h
  split at h
  · rename_i k j sz by_ ag z hti
    obtain ⟨inf, d, _, _, _, _, hu, htd, _⟩ := tOf hT hti
    obtain rfl := tdb_str htd
    have hy := vr_i hix
    split at h
    · rename_i l
      cases h
      obtain ⟨h0, h1⟩ := hc
      have hx := vr_s ha
      have hlt : j.toNat < l.length := by omega
      refine snd_pure hH (u := .int .u8 (l.getD j.toNat 0).toNat) ?_ rfl
      have hb : ((⟨l.toArray⟩ : ByteArray)[j.toNat]? : Option UInt8) = some (l.getD j.toNat 0) := by
        rw [List.getD_eq_getElem?_getD, List.getElem?_eq_getElem hlt]
        show (if h : j.toNat < (⟨l.toArray⟩ : ByteArray).size then some ((⟨l.toArray⟩ : ByteArray)[j.toNat]) else none) = _
        rw [dif_pos (by show j.toNat < l.toArray.size; simpa using hlt)]
        rfl
      simp only [execOp, ho, hx, hy, Instr.index, asIntOf, Sem.run_bind, Sem.run_pure, Result.andThen_ok, run_und hu, h0, if_true, hb]
    · cases h
  · rename_i k j sz by_ ag z n e hti
    obtain ⟨inf, d, _, _, _, _, hu, htd, _⟩ := tOf hT hti
    obtain rfl := tdb_arr htd
    have hy := vr_i hix
    split at h
    · rename_i ei he
      obtain ⟨ei', d', hi', hsz', _, _, hu', _, hag⟩ := tOf hT he
      split at h
      · rename_i cs
        split at h
        · cases h
        · rename_i hagg
          have hagf : ei.agg = false := by simpa using hagg
          cases h
          obtain ⟨h0, h1, h2⟩ := hc
          obtain ⟨vs, hρ, hv⟩ := ha
          obtain ⟨hl, h3⟩ := (vrs_iff _ _).1 hv
          obtain ⟨u, hu1, hu2⟩ := h3 (j.toNat * ei.size) cs[j.toNat * ei.size] (by simp)
          refine snd_pure hH (u := u) ?_ (by rw [List.getD_eq_getElem?_getD, List.getElem?_eq_getElem h2]; exact hu2)
          rw [Array.getElem?_toList] at hu1
          simp only [execOp, ho, hρ, hy, Instr.index, asIntOf, part, Sem.run_bind, Sem.run_pure, Result.andThen_ok, run_und hu, h0, h1, and_self, if_true, run_agg hu', hag, hagf, Bool.false_eq_true, if_false, run_sz hi', hsz', hu1]
      · cases h
    · cases h
  · cases h

theorem aExtract_ok {k : Nat} {x : Operand} (ho : o.op = .extract x k) {a : AV} (ha : VR C a (ρ x))
    {c : Prop} {v : AV} {up : List (Nat × Blk)} (h : aExtract a k = some (c, v, up)) (hc : c) : Snd C ((execOp ρ o).run P C.w) v up := by
  unfold aExtract at h
  split at h
  · rename_i vs
    split at h
    · rename_i y hy
      cases h
      obtain ⟨us, hρ, hv⟩ := ha
      obtain ⟨hl, h3⟩ := (vrs_iff _ _).1 hv
      obtain ⟨u, hu1, hu2⟩ := h3 k v hy
      rw [Array.getElem?_toList] at hu1
      refine snd_pure hH (u := u) ?_ hu2
      simp only [execOp, ho, hρ, Instr.extract, hu1, Sem.run_bind, Sem.run_pure, Result.andThen_ok]
    · cases h
  · cases h

theorem aPick_ok {x y z : Operand} (ho : o.op = .pick x y z) {a b d : AV} (ha : VR C a (ρ x)) (hb : VR C b (ρ y)) (hd : VR C d (ρ z))
    {c : Prop} {v : AV} {up : List (Nat × Blk)} (h : aPick a b d = some (c, v, up)) (hc : c) : Snd C ((execOp ρ o).run P C.w) v up := by
  unfold aPick at h
  split at h
  · rename_i t
    cases h
    have hx := vr_b ha
    refine snd_pure hH (u := if t then ρ y else ρ z) ?_ (by cases t <;> assumption)
    simp only [execOp, ho, hx, asBool, Sem.run_bind, Sem.run_pure, Result.andThen_ok]
  · cases h

theorem aNilCheck_ok {x : Operand} (ho : o.op = .nilCheck x) {a : AV} (ha : VR C a (ρ x))
    {c : Prop} {v : AV} {up : List (Nat × Blk)} (h : aNilCheck a = some (c, v, up)) (hc : c) : Snd C ((execOp ρ o).run P C.w) v up := by
  unfold aNilCheck at h
  split at h
  · cases h
    obtain ⟨ad, hρ, h3⟩ := ha
    exact snd_pure hH (u := ρ x) (by simp only [execOp, ho, hρ, Sem.run_pure]) (by rw [hρ]; exact ⟨ad, rfl, h3⟩)
  · cases h
    obtain ⟨blk, base, hρ, h3⟩ := ha
    exact snd_pure hH (u := ρ x) (by simp only [execOp, ho, hρ, Sem.run_pure]) (by rw [hρ]; exact ⟨blk, base, rfl, h3⟩)
  · cases h
    obtain ⟨vs, hρ, h3⟩ := ha
    exact snd_pure hH (u := ρ x) (by simp only [execOp, ho, hρ, Sem.run_pure]) (by rw [hρ]; exact ⟨vs, rfl, h3⟩)
  · cases h
    obtain ⟨r, hρ, h3⟩ := ha
    exact snd_pure hH (u := ρ x) (by simp only [execOp, ho, hρ, Sem.run_pure]) (by rw [hρ]; exact ⟨r, rfl, h3⟩)
  · cases h

theorem aUn_ok {op : UnOp} {t : Nat} {x : Operand} (ho : o.op = .unOp op t x) {a : AV} (ha : VR C a (ρ x))
    {c : Prop} {v : AV} {up : List (Nat × Blk)} (h : aUn op a = some (c, v, up)) (hc : c) : Snd C ((execOp ρ o).run P C.w) v up := by
  unfold aUn at h
  split at h
  · cases h
    have hx := vr_b ha
    exact snd_pure hH (u := .bool _) (by simp only [execOp, ho, hx, Op.unary, Sem.run_bind, Sem.run_pure, Result.andThen_ok]) rfl
  · cases h
    have hx := vr_i ha
    exact snd_pure hH (u := .int _ _) (by simp only [execOp, ho, hx, Op.unary, Op.intArith, Sem.run_bind, Sem.run_pure, Result.andThen_ok]) rfl
  · cases h

end
end Go.Proofs.Ytdacfgclclpooaa
