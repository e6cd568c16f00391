/- The abstract operations tell the truth, 3: slices, sums, conversions, lengths. Conditions: the table of types fits the program. -/
import Derived.Test.YtdacfgclclpooaaCbG
import Derived.Laws.Strings
namespace Go.Proofs.Ytdacfgclclpooaa
open Go Go.RowKit
set_option linter.unusedVariables false
set_option linter.unusedSimpArgs false
set_option linter.unusedSectionVars false

section
variable {P : Program} {T : TT} (hT : TOk P T) {C : Cx} (hH : HR C) {o : Oper} {ρ : Operand → Value}
include hT hH

/-- What the model's bounds come to. -/
theorem bnds_ok {isSlice : Bool} {n cap : Nat} (hcap : n ≤ cap) {lo hi : Option AV} {lo' hi' : Option Value}
    (hlo : ∀ a, lo = some a → ∃ v, lo' = some v ∧ VR C a v) (hlon : lo = none → lo' = none) (hhi : ∀ a, hi = some a → ∃ v, hi' = some v ∧ VR C a v) (hhin : hi = none → hi' = none)
    {c : Prop} {x y : Nat} (h : bnds n lo hi = some (c, x, y)) (hc : c) (w : World) :
    (Instr.sliceBounds isSlice n cap lo' hi' none).run P w = .ok (x, y, cap) w ∧ x ≤ y ∧ y ≤ n := by
  unfold bnds at h
  split at h
  · cases h
    rw [hlon rfl, hhin rfl]
    exact ⟨by simp [Instr.sliceBounds], by omega, by omega⟩
  · rename_i k l
    cases h
    obtain ⟨v, rfl, hv⟩ := hlo _ rfl
    rw [hhin rfl, vr_i hv]
    refine ⟨?_, by omega, by omega⟩
    simp [Instr.sliceBounds, Instr.sliceBound, asIntOf, hc.1, hc.2]
  · rename_i k l
    cases h
    obtain ⟨v, rfl, hv⟩ := hhi _ rfl
    rw [hlon rfl, vr_i hv]
    refine ⟨?_, by omega, by omega⟩
    have h2 : l ≤ (cap : Int) := by omega
    simp [Instr.sliceBounds, Instr.sliceBound, asIntOf, hc.1, h2]
  · rename_i k l k' l'
    cases h
    obtain ⟨h1, h2, h3, h4⟩ := hc
    obtain ⟨v, rfl, hv⟩ := hlo _ rfl
    obtain ⟨v', rfl, hv'⟩ := hhi _ rfl
    rw [vr_i hv, vr_i hv']
    refine ⟨?_, by omega, by omega⟩
    have h2 : l' ≤ (cap : Int) := by omega
    have h5 : ¬ (max l' 0 < l) := by omega
    simp [Instr.sliceBounds, Instr.sliceBound, asIntOf, h1, h2, h3, h5]
  · cases h

theorem aSlice_ok {t : Nat} {x : Operand} {lo hi mx : Option Operand} {ev : Operand → AV} (ho : o.op = .slice t x lo hi mx) (ha : VR C (ev x) (ρ x))
    (hlo : ∀ y, lo = some y → VR C (ev y) (ρ y)) (hhi : ∀ y, hi = some y → VR C (ev y) (ρ y)) (hmx0 : ∀ y, mx = some y → VR C (ev y) (ρ y))
    {c : Prop} {v : AV} {up : List (Nat × Blk)} (h : aSlice T C.g t (ev x) (lo.map ev) (hi.map ev) (mx.map ev) = some (c, v, up)) (hc : c) : Snd C ((execOp ρ o).run P C.w) v up := by
  have B := fun (isSlice : Bool) (n cap : Nat) (hcap : n ≤ cap) (c : Prop) (x y : Nat) (h : bnds n (lo.map ev) (hi.map ev) = some (c, x, y)) (hc : c) =>
    bnds_ok hT hH (isSlice := isSlice) hcap (lo' := lo.map ρ) (hi' := hi.map ρ)
      (fun a e => by cases lo with | none => cases e | some z => cases e; exact ⟨_, rfl, hlo z rfl⟩) (fun e => by cases lo with | none => rfl | some z => cases e)
      (fun a e => by cases hi with | none => cases e | some z => cases e; exact ⟨_, rfl, hhi z rfl⟩) (fun e => by cases hi with | none => rfl | some z => cases e) h hc C.w
  generalize hev : ev x = a at *
  unfold aSlice at h
  split at h
  · rename_i sz by_ ag z hmx hti
    have hmx' : mx = none := by cases mx with | none => rfl | some z => cases hmx
    subst hmx'
    obtain ⟨inf, d, _, _, _, _, hu, htd, _⟩ := tOf hT hti
    obtain rfl := tdb_str htd
    split at h
    · rename_i l
      split at h
      · rename_i c' x' y' hb
        cases h
        obtain ⟨hb1, hb2, hb3⟩ := B false l.length l.length (Nat.le_refl _) _ _ _ hb hc
        have hx := vr_s ha
        refine snd_pure hH (u := .string ⟨((l.take y').drop x').toArray⟩) ?_ rfl
        have hsz : (⟨l.toArray⟩ : ByteArray).size = l.length := by show l.toArray.size = _; simp
        have hext : (⟨l.toArray⟩ : ByteArray).extract x' y' = ⟨((l.take y').drop x').toArray⟩ := by
          apply ByteArray.ext
          rw [ByteArray.data_extract]
          show l.toArray.extract x' y' = _
          rw [List.extract_toArray, List.drop_take, List.extract_eq_take_drop]
        simp only [execOp, ho, hx, Instr.sliceAt, Instr.slice, Sem.run_bind, Sem.run_pure, Result.andThen_ok, run_und hu, Option.map_none, Option.isSome_none, Bool.false_eq_true, if_false, hsz, hb1, hext]
      · cases h
    · cases h
  · rename_i k2 mv sz by_ ag z e hmx hti
    obtain ⟨inf, d, _, _, _, _, hu, htd, _⟩ := tOf hT hti
    obtain rfl := tdb_slice htd
    split at h
    · rename_i ei k1 hv he hlo' hhi'
      obtain ⟨ei', d', hi', hsz', _⟩ := tOf hT he
      have e1 : lo = none := by cases lo with | none => rfl | some q => cases hlo'
      subst e1
      obtain ⟨qh, rfl, hqh⟩ : ∃ q, hi = some q ∧ ev q = .i k1 hv := by cases hi with | none => cases hhi' | some q => exact ⟨q, rfl, by simpa using hhi'⟩
      obtain ⟨qm, rfl, hqm⟩ : ∃ q, mx = some q ∧ ev q = .i k2 mv := by cases mx with | none => cases hmx | some q => exact ⟨q, rfl, by simpa using hmx⟩
      have hh1 := hhi qh rfl
      rw [hqh] at hh1
      have hh1 := vr_i hh1
      have hm1 := hmx0 qm rfl
      rw [hqm] at hm1
      have hm1 := vr_i hm1
      have hbn : ∀ (cap n : Nat), n ≤ cap → hv = n → mv = n → (Instr.sliceBounds true n cap none (some (ρ qh)) (some (ρ qm))).run P C.w = .ok (0, n, n) C.w := by
        intro cap n hc rfl' hmv
        rw [hh1, hm1, rfl', hmv]
        have h2 : (n : Int) ≤ cap := by omega
        simp [Instr.sliceBounds, Instr.sliceBound, asIntOf, h2]
      split at h
      · rename_i tg n cs
        cases h
        obtain ⟨ao, cc, hρ, h2, h3⟩ := ha
        refine snd_pure hH (u := .slice (if n = 0 then ao else ao.map (·.add (0 * ei'.size))) (n - 0) (n - 0)) ?_ ?_
        · simp only [execOp, ho, hρ, Instr.sliceAt, Instr.slice, Sem.run_bind, Sem.run_pure, Result.andThen_ok, run_und hu, Option.map_none, Option.map_some, hbn cc n h2 hc.1 hc.2, run_sz hi']
        · refine ⟨_, n, rfl, Nat.le_refl _, ?_⟩
          rcases h3 with h3 | ⟨h3, blk, off, rfl, hok, hm⟩
          · exact .inl h3
          · by_cases hn0 : n = 0
            · exact .inl hn0
            · refine .inr ⟨h3, blk, off, ?_, hok, hm⟩
              rw [if_neg hn0]; simp [add_off]
      · cases h
        have hρ : ρ x = .slice none 0 0 := ha
        refine snd_pure hH (u := .slice none 0 0) ?_ rfl
        have := hbn 0 0 (Nat.le_refl _) hc.1 hc.2
        simp only [execOp, ho, hρ, Instr.sliceAt, Instr.slice, Sem.run_bind, Sem.run_pure, Result.andThen_ok, run_und hu, Option.map_none, Option.map_some, this, run_sz hi', if_true]
      · rename_i b off n cap
        split at h
        · rename_i bsz cs hg
          split at h
          · rename_i hbs
            cases h
            obtain ⟨hc1, hc2, hc3, hc4⟩ := hc
            obtain ⟨ao, cc, hρ, h2, h2', h3, h4⟩ := ha
            obtain ⟨h5, h6⟩ := h4 bsz cs hg
            refine snd_pure hH (u := .slice (if n = 0 then ao else ao.map (·.add (0 * ei'.size))) (n - 0) (n - 0)) ?_ ⟨_, n, rfl, Nat.le_refl _, Nat.le_refl _, h3, fun sz' cs' hg' => ?_⟩
            · simp only [execOp, ho, hρ, Instr.sliceAt, Instr.slice, Sem.run_bind, Sem.run_pure, Result.andThen_ok, run_und hu, Option.map_none, Option.map_some, hbn cc n h2 hc1 hc2, run_sz hi']
            · rw [hg] at hg'; cases hg'
              subst hc3
              refine ⟨h5, fun _ => ?_⟩
              rcases h6 hc4 with ⟨z1, z2⟩ | ⟨z1, arr, el, harr, h7⟩
              · exact .inl ⟨z1, by omega⟩
              refine .inr ⟨z1, arr, el, harr, ?_⟩
              rcases h7 with h7 | ⟨rfl, h8, h9⟩
              · exact .inl ⟨h7.2, h7.2⟩
              · by_cases hn0 : n = 0
                · exact .inl ⟨hn0, hn0⟩
                · refine .inr ⟨?_, ?_, Nat.le_refl _⟩
                  · rw [if_neg hn0]; simp [add_off]
                  · have := Nat.mul_le_mul_right bsz h2; omega
          · cases h
        · cases h
      · cases h
    · cases h
  · rename_i sz by_ ag z e hmx hti
    have hmx' : mx = none := by cases mx with | none => rfl | some z => cases hmx
    subst hmx'
    obtain ⟨inf, d, _, _, _, _, hu, htd, _⟩ := tOf hT hti
    obtain rfl := tdb_slice htd
    split at h
    · rename_i ei he
      obtain ⟨ei', d', hi', hsz', _⟩ := tOf hT he
      split at h
      · split at h
        · rename_i c' x' y' hb
          cases h
          obtain ⟨hb1, hb2, hb3⟩ := B true 0 0 (Nat.le_refl _) _ _ _ hb hc
          have hρ : ρ x = .slice none 0 0 := ha
          have : x' = 0 ∧ y' = 0 := by omega
          obtain ⟨rfl, rfl⟩ := this
          refine snd_pure hH (u := .slice none 0 0) ?_ rfl
          simp only [execOp, ho, hρ, Instr.sliceAt, Instr.slice, Sem.run_bind, Sem.run_pure, Result.andThen_ok, run_und hu, Option.map_none, hb1, run_sz hi', hsz', if_true]
        · cases h
      · rename_i tg n cs
        split at h
        · rename_i c' x' y' hb
          split at h
          · cases h
          · rename_i hs0
            cases h
            obtain ⟨hc1, hc2⟩ := hc
            obtain ⟨ao, cc, hρ, h2, h3⟩ := ha
            obtain ⟨hb1, hb2, hb3⟩ := B true n cc h2 _ _ _ hb hc1
            refine snd_pure hH (u := .slice (if cc = x' then ao else ao.map (·.add (x' * ei.size))) (y' - x') (cc - x')) ?_ ⟨_, _, rfl, by omega, ?_⟩
            · simp only [execOp, ho, hρ, Instr.sliceAt, Instr.slice, Sem.run_bind, Sem.run_pure, Result.andThen_ok, run_und hu, Option.map_none, hb1, run_sz hi', hsz']
            · rcases Nat.eq_zero_or_pos (y' - x') with hz | hpos
              · exact .inl hz
              · obtain ⟨hl0, blk, off, rfl, hok, hm⟩ := h3.resolve_left (by omega)
                have e1 : y' * ei.size ≤ n * ei.size := Nat.mul_le_mul_right _ hb3
                have e2 : (x' + 1) * ei.size ≤ y' * ei.size := Nat.mul_le_mul_right _ (by omega)
                have e3 : (x' + 1) * ei.size = x' * ei.size + ei.size := Nat.succ_mul _ _
                refine .inr ⟨by simp; omega, blk, off + x' * ei.size, ?_, hok, (vdm_iff _ _ _).2 fun i ux hx => ?_⟩
                · rw [if_neg (by omega)]; simp [add_off]
                · rw [List.getElem?_drop, List.getElem?_take] at hx
                  split at hx
                  · obtain ⟨u', h4, h5⟩ := (vdm_iff _ _ _).1 hm _ _ hx
                    exact ⟨u', by rw [← h4]; congr 2; omega, h5⟩
                  · cases hx
        · cases h
      · rename_i b off n cap
        split at h
        · rename_i bsz cs hg
          split at h
          · rename_i hbs
            split at h
            · rename_i c' x' y' hb
              cases h
              obtain ⟨hc1, hc2⟩ := hc
              obtain ⟨ao, cc, hρ, h2, h2', h3, h4⟩ := ha
              obtain ⟨hb1, hb2, hb3⟩ := B true n cc h2 _ _ _ hb hc1
              obtain ⟨h5, h6⟩ := h4 bsz cs hg
              have e1 : x' * bsz + (cap - x') * bsz = cap * bsz := by rw [← Nat.add_mul]; congr 1; omega
              refine snd_pure hH (u := .slice (if cc = x' then ao else ao.map (·.add (x' * bsz))) (y' - x') (cc - x')) ?_ ⟨_, _, rfl, by omega, by omega, h3, fun sz' cs' hg' => ?_⟩
              · subst hbs
                simp only [execOp, ho, hρ, Instr.sliceAt, Instr.slice, Sem.run_bind, Sem.run_pure, Result.andThen_ok, run_und hu, Option.map_none, hb1, run_sz hi', hsz']
              · rw [hg] at hg'; cases hg'
                refine ⟨by omega, fun _ => ?_⟩
                rcases h6 hc2 with ⟨z1, z2⟩ | ⟨z1, arr, el, harr, h7⟩
                · exact .inl ⟨z1, by omega⟩
                refine .inr ⟨z1, arr, el, harr, ?_⟩
                by_cases hcx : cc = x'
                · exact .inl (by omega)
                · obtain ⟨rfl, h8⟩ := h7.resolve_left (by omega)
                  have e2 : x' * bsz + (cc - x') * bsz = cc * bsz := by rw [← Nat.add_mul]; congr 1; omega
                  refine .inr ⟨?_, by omega⟩
                  rw [if_neg hcx]; simp [add_off]
            · cases h
          · cases h
        · cases h
      · cases h
    · cases h
  · cases h

theorem aLen_ok {cl : Call} {t : Nat} {ts : List Nat} {x : Operand} (ho : o.op = .call cl) (hcl : cl.callee = .builtin .len) (harg : cl.args.toList = [x]) (hty : cl.argTypes.toList = t :: ts)
    {a : AV} (ha : VR C a (ρ x)) {c : Prop} {v : AV} {up : List (Nat × Blk)} (h : aLen T t a = some (c, v, up)) (hc : c) : Snd C ((execOp ρ o).run P C.w) v up := by
  have hargs : cl.args = #[x] := by rw [← Array.toArray_toList (xs := cl.args), harg]
  have hts : cl.argTypes[0]? = some t := by rw [← Array.getElem?_toList, hty]; rfl
  have key : ∀ (n : Int), (Builtin.len_ cl.argTypes o.type #[ρ x]).run P C.w = .ok (.int .i64 n) C.w → (execOp ρ o).run P C.w = .ok (.value (.int .i64 n)) C.w := fun n hn => by
    simp only [execOp, ho, resolve, hcl, hargs, List.map_toArray, List.map_cons, List.map_nil, Sem.run_bind, Sem.run_pure, Result.andThen_ok, invoke, builtin, hn]
  unfold aLen at h
  split at h
  · rename_i sz by_ ag z l hti
    obtain ⟨inf, d, _, _, _, _, hu, htd, _⟩ := tOf hT hti
    obtain rfl := tdb_str htd
    cases h
    refine snd_pure hH (key l.length ?_) rfl
    rw [vr_s ha]
    simp [Builtin.len_, hts, run_und hu, goInt]
    show ((l.toArray.size : Nat) : Int) = l.length; simp
  · rename_i sz by_ ag z e tg n cs hti
    obtain ⟨inf, d, _, _, _, _, hu, htd, _⟩ := tOf hT hti
    obtain rfl := tdb_slice htd
    cases h
    obtain ⟨ao, cc, hρ, _⟩ := ha
    refine snd_pure hH (key n ?_) rfl
    rw [hρ]
    simp [Builtin.len_, hts, run_und hu, goInt]
  · rename_i sz by_ ag z e b off n cap hti
    obtain ⟨inf, d, _, _, _, _, hu, htd, _⟩ := tOf hT hti
    obtain rfl := tdb_slice htd
    cases h
    obtain ⟨ao, cc, hρ, _⟩ := ha
    refine snd_pure hH (key n ?_) rfl
    rw [hρ]
    simp [Builtin.len_, hts, run_und hu, goInt]
  · rename_i sz by_ ag z e hti
    obtain ⟨inf, d, _, _, _, _, hu, htd, _⟩ := tOf hT hti
    obtain rfl := tdb_slice htd
    cases h
    refine snd_pure hH (key 0 ?_) rfl
    rw [show ρ x = .slice none 0 0 from ha]
    simp [Builtin.len_, hts, run_und hu, goInt]
  · rename_i sz by_ ag z n e hti
    obtain ⟨inf, d, _, _, _, _, hu, htd, _⟩ := tOf hT hti
    obtain rfl := tdb_arr htd
    cases h
    refine snd_pure hH (key n ?_) rfl
    simp [Builtin.len_, hts, run_und hu, goInt]
  · cases h

theorem str_eq (a b : List UInt8) : ((⟨a.toArray⟩ : ByteArray).toList == (⟨b.toArray⟩ : ByteArray).toList) = (a == b) := by
  rw [ByteArray.toList_mk, ByteArray.toList_mk]

theorem intOp_ok {op : BinOp} {t : Nat} {k : IntKind} {x y : Int} {c : Prop} {v : AV} {up : List (Nat × Blk)} (h : intOp op k x y = some (c, v, up)) (hc : c) (hs : op ≠ .shl) (hs' : op ≠ .shr) (w : World) :
    up = [] ∧ ∃ u, (binOp op t (.int k x) (.int k y)).run P w = .ok u w ∧ VR C v u := by
  unfold intOp at h
  split at h <;> first
    | (cases h; done)
    | (cases h; exact ⟨rfl, _, by simp [binOp, Op.intArith, Op.intDiv, Op.intBits, Op.intCmp, hc, bne] <;> rfl, rfl⟩)
    | (cases h; exact ⟨rfl, _, by simp [binOp, Op.intArith, Op.intDiv, Op.intBits, Op.intCmp, hc, bne], rfl⟩)

theorem strOp_ok {op : BinOp} {t : Nat} {x y : List UInt8} {c : Prop} {v : AV} {up : List (Nat × Blk)} (h : strOp op x y = some (c, v, up)) (hc : c) (w : World) :
    up = [] ∧ ∃ u, (binOp op t (.string ⟨x.toArray⟩) (.string ⟨y.toArray⟩)).run P w = .ok u w ∧ VR C v u := by
  have hmax : IntKind.i64.max = 9223372036854775807 := by decide
  have hsz : ∀ l : List UInt8, (⟨l.toArray⟩ : ByteArray).size = l.length := fun l => by show l.toArray.size = _; simp
  have happ : (⟨x.toArray⟩ : ByteArray) ++ (⟨y.toArray⟩ : ByteArray) = ⟨(x ++ y).toArray⟩ := by
    apply ByteArray.ext
    rw [ByteArray.data_append]
    simp
  unfold strOp at h
  split at h
  · cases h
    refine ⟨rfl, .string ⟨(x ++ y).toArray⟩, ?_, rfl⟩
    have hc' : ¬ (((x.length + y.length : Nat) : Int) > IntKind.i64.max) := by rw [hmax]; omega
    simp only [binOp, Op.stringOp, hsz, happ]
    rw [if_neg hc']
    rfl
  all_goals first
    | (cases h; done)
    | (cases h; exact ⟨rfl, _, by simp [binOp, Op.stringOp], rfl⟩)
    | (cases h; exact ⟨rfl, _, by simp [binOp, Op.stringOp]; rfl, rfl⟩)

omit hT hH in
theorem eqB {t : Nat} (hu : P.underlying t = some .bool) (n : Nat) (a b : Bool) (w : World) : (Op.equalIn (n + 1) t (.bool a) (.bool b)).run P w = .ok (a == b) w := by
  simp [Op.equalIn, run_und hu]
omit hT hH in
theorem eqI {t : Nat} {ms} (hu : P.underlying t = some (.interface ms)) (n : Nat) (tt : Nat) (z : Value) (w : World) : (Op.equalIn (n + 1) t (.iface tt z) .nilIface).run P w = .ok false w := by
  simp [Op.equalIn, run_und hu]
omit hT hH in
theorem eqJ {t : Nat} {ms} (hu : P.underlying t = some (.interface ms)) (n : Nat) (w : World) : (Op.equalIn (n + 1) t .nilIface .nilIface).run P w = .ok true w := by
  simp [Op.equalIn, run_und hu]
omit hT hH in
theorem eqS {t e : Nat} (hu : P.underlying t = some (.slice e)) (n : Nat) (w : World) : (Op.equalIn (n + 1) t (.slice none 0 0) (.slice none 0 0)).run P w = .ok true w := by
  simp [Op.equalIn, run_und hu]

omit hT hH in
theorem eqN {t e : Nat} (hu : P.underlying t = some (.slice e)) (n : Nat) (a : Addr) (m c : Nat) (w : World) : (Op.equalIn (n + 1) t (.slice (some a) m c) (.slice none 0 0)).run P w = .ok false w := by
  simp [Op.equalIn, run_und hu]

theorem aBinOp_ok {op : BinOp} {t t2 : Nat} {x y : Operand} (ho : o.op = .binOp op t x y t2) {a b : AV} (ha : VR C a (ρ x)) (hb : VR C b (ρ y))
    {c : Prop} {v : AV} {up : List (Nat × Blk)} (h : aBinOp T op t (isC y) a b = some (c, v, up)) (hc : c) : Snd C ((execOp ρ o).run P C.w) v up := by
  have key : ∀ u, (eqGuard op t x y (ρ x) (ρ y)).run P C.w = .ok () C.w → (binOp op t (ρ x) (ρ y)).run P C.w = .ok u C.w → (execOp ρ o).run P C.w = .ok (.value u) C.w := fun u h1 h2 => by
    simp only [execOp, ho, Sem.run_bind, h1, Result.andThen_ok, h2, Sem.run_pure]
  have g0 : ∀ p q : Value, (p ≠ .nilIface ∨ q ≠ .nilIface) → (∀ cs, p ≠ .agg cs) → (eqGuard op t x y p q).run P C.w = .ok () C.w := fun p q h1 h2 => by
    unfold eqGuard
    by_cases hop : op = .eql ∨ op = .neq
    · rcases hop with rfl | rfl <;> cases p <;> first | rfl | (cases q <;> first | rfl | (simp at h1; done)) | exact absurd rfl (h2 _)
    · cases op <;> first | rfl | exact absurd (.inl rfl) hop | exact absurd (.inr rfl) hop
  have nonint : ∀ (r : Bool), eqOp T op t (isC y) a b = some r → (op = .eql → v = .b r) → (op = .neq → v = .b !r) → (op = .eql ∨ op = .neq) → up = [] → Snd C ((execOp ρ o).run P C.w) v up := by
    intro r hr h1 h2 h3 h4
    subst h4
    have heq : ∃ p, (eqGuard op t x y (ρ x) (ρ y)).run P C.w = .ok () C.w ∧ (Op.equal t (ρ x) (ρ y)).run P C.w = .ok p C.w ∧ p = r ∧ (op = .eql → binOp op t (ρ x) (ρ y) = (do pure (.bool (← Op.equal t (ρ x) (ρ y))))) ∧ (op = .neq → binOp op t (ρ x) (ρ y) = (do pure (.bool (!(← Op.equal t (ρ x) (ρ y)))))) := by
      cases hti : T t with
      | none => simp [eqOp, hti] at hr
      | some ti =>
        obtain ⟨sz, by_, ag, z, d0⟩ := ti
        obtain ⟨inf, d, _, _, _, _, hu, htd, _⟩ := tOf hT hti
        cases d0 with
        | bool =>
          obtain rfl := tdb_bool htd
          cases a with
          | b p =>
            cases b with
            | b q =>
              simp [eqOp, hti] at hr
              subst hr
              rw [vr_b ha, vr_b hb]
              refine ⟨p == q, g0 _ _ (.inl (by simp)) (by simp), eqB hu 9999 _ _ _, rfl, ?_⟩
              exact ⟨fun e => by rw [e]; rfl, fun e => by rw [e]; rfl⟩
            | _ => simp [eqOp, hti] at hr
          | _ => simp [eqOp, hti] at hr
        | iface =>
          obtain ⟨ms, rfl⟩ := tdb_iface htd
          cases a with
          | err p =>
            cases b with
            | err q =>
              cases q with
              | false => simp [eqOp, hti] at hr
              | true =>
                simp [eqOp, hti] at hr
                obtain ⟨hyc, rfl⟩ := hr
                have hb' : ρ y = .nilIface := by have : (if true = true then ρ y = .nilIface else ∃ t z, ρ y = .iface t z) := hb; simpa using this
                have ha' : (if p then ρ x = .nilIface else ∃ t z, ρ x = .iface t z) := ha
                cases p
                · obtain ⟨tt, z, hx⟩ := (by simpa using ha')
                  rw [hx, hb']
                  refine ⟨false, g0 _ _ (.inl (by simp)) (by simp), eqI hu 9999 _ _ _, rfl, ?_⟩
                  exact ⟨fun e => by rw [e]; rfl, fun e => by rw [e]; rfl⟩
                · have hx : ρ x = .nilIface := by simpa using ha'
                  rw [hx, hb']
                  refine ⟨true, ?_, eqJ hu 9999 _, rfl, ?_⟩
                  · cases y with
                    | const q => rcases h3 with rfl | rfl <;> simp [eqGuard]
                    | _ => simp [isC] at hyc
                  · exact ⟨fun e => by rw [e]; rfl, fun e => by rw [e]; rfl⟩
            | _ => simp [eqOp, hti] at hr
          | _ => simp [eqOp, hti] at hr
        | slice e =>
          obtain rfl := tdb_slice htd
          cases a with
          | nilS =>
            cases b with
            | nilS =>
              simp [eqOp, hti] at hr
              subst hr
              rw [show ρ x = .slice none 0 0 from ha, show ρ y = .slice none 0 0 from hb]
              refine ⟨true, g0 _ _ (.inl (by simp)) (by simp), eqS hu 9999 _, rfl, ?_⟩
              exact ⟨fun e => by rw [e]; rfl, fun e => by rw [e]; rfl⟩
            | _ => simp [eqOp, hti] at hr
          | _ => simp [eqOp, hti] at hr
        | _ => simp [eqOp, hti] at hr
    obtain ⟨p, e1, e2, rfl, e3, e4⟩ := heq
    rcases h3 with rfl | rfl
    · rw [h1 rfl]
      exact snd_pure hH (key (.bool p) e1 (by rw [e3 rfl]; simp only [Sem.run_bind, e2, Result.andThen_ok, Sem.run_pure])) rfl
    · rw [h2 rfl]
      exact snd_pure hH (key (.bool !p) e1 (by rw [e4 rfl]; simp only [Sem.run_bind, e2, Result.andThen_ok, Sem.run_pure])) rfl
  unfold aBinOp at h
  split at h
  · rename_i k p k' q
    have hx := vr_i ha
    have hy := vr_i hb
    have hg := g0 (ρ x) (ρ y) (.inl (by rw [hx]; simp)) (by rw [hx]; simp)
    split at h
    · cases h
      refine snd_pure hH (key (.int k (p.fdiv (2 ^ (min q.toNat k.bits)))) hg ?_) rfl
      have hq : ¬ q < 0 := by omega
      rw [hx, hy]
      simp only [binOp, Op.shift, hq, if_false, Sem.run_pure]
    · cases h
      refine snd_pure hH (key (.int k (k.wrap (p * 2 ^ (min q.toNat k.bits)))) hg ?_) rfl
      have hq : ¬ q < 0 := by omega
      rw [hx, hy]
      simp only [binOp, Op.shift, hq, if_false, Sem.run_pure]
    · rename_i h1 h2
      split at h
      · rename_i hk
        subst hk
        obtain ⟨rfl, u, h3, h4⟩ := intOp_ok (P := P) (T := T) hT hH (t := t) h hc h2 h1 C.w
        exact snd_pure hH (key u hg (by rw [hx, hy]; exact h3)) h4
      · cases h
  · rename_i p q
    have hx := vr_s ha
    have hy := vr_s hb
    obtain ⟨rfl, u, h3, h4⟩ := strOp_ok (P := P) (T := T) hT hH (t := t) h hc C.w
    exact snd_pure hH (key u (g0 _ _ (.inl (by rw [hx]; simp)) (by rw [hx]; simp)) (by rw [hx, hy]; exact h3)) h4
  · rename_i tg n cs
    obtain ⟨ao, cc, hx, h1, h2⟩ := ha
    have hy : ρ y = .slice none 0 0 := hb
    split at h
    · rename_i sz by_ ag z e hti
      obtain ⟨inf, d, _, _, _, _, hu, htd, _⟩ := tOf hT hti
      obtain rfl := tdb_slice htd
      cases h
      obtain ⟨_, blk, off, rfl, _⟩ := h2.resolve_left (by omega)
      refine snd_pure hH (key (.bool false) (g0 _ _ (.inl (by rw [hx]; simp)) (by rw [hx]; simp)) ?_) rfl
      rw [hx, hy]
      show (do pure (.bool (← Op.equal t _ _)) : Sem Value).run P C.w = _
      have h9 : (Op.equal t (.slice (some ⟨blk, off, none⟩) n cc) (.slice none 0 0)).run P C.w = .ok false C.w := eqN hu 9999 _ _ _ _
      simp only [Sem.run_bind, h9, Result.andThen_ok, Sem.run_pure]
    · rename_i sz by_ ag z e hti
      obtain ⟨inf, d, _, _, _, _, hu, htd, _⟩ := tOf hT hti
      obtain rfl := tdb_slice htd
      cases h
      obtain ⟨_, blk, off, rfl, _⟩ := h2.resolve_left (by omega)
      refine snd_pure hH (key (.bool true) (g0 _ _ (.inl (by rw [hx]; simp)) (by rw [hx]; simp)) ?_) rfl
      rw [hx, hy]
      show (do pure (.bool (!(← Op.equal t _ _))) : Sem Value).run P C.w = _
      have h9 : (Op.equal t (.slice (some ⟨blk, off, none⟩) n cc) (.slice none 0 0)).run P C.w = .ok false C.w := eqN hu 9999 _ _ _ _
      simp only [Sem.run_bind, h9, Result.andThen_ok, Sem.run_pure]
      rfl
    · cases h
  · split at h
    · rename_i r hr; cases h; exact nonint r hr (fun _ => rfl) (fun e => by cases e) (.inl rfl) rfl
    · rename_i r hr; cases h; exact nonint r hr (fun e => by cases e) (fun _ => rfl) (.inr rfl) rfl
    · cases h

end
end Go.Proofs.Ytdacfgclclpooaa
