/- The abstract operations tell the truth, 1: those that change nothing. Conditions: the table of types fits the program. -/
import Derived.Test.YtdacfgclclpooaaCbE
namespace Go.Proofs.Ytdacfgclclpooaa
open Go Go.RowKit
set_option linter.unusedVariables false

theorem ofV1_vr (C : Cx) (v : Value) : VR C (ofV1 v) v := by
  unfold ofV1
  split
  · rfl
  · rfl
  · rename_i s; show Value.string s = _; congr 1
  · rfl
  · rfl
  · simp [VR, VD]
  · trivial

theorem ofV_vr (C : Cx) (v : Value) : VR C (ofV v) v := by
  unfold ofV
  split
  · rename_i cs
    refine ⟨cs, rfl, (vrs_iff _ _).2 ⟨by simp, fun i x hx => ?_⟩⟩
    rw [List.getElem?_map] at hx
    cases hy : cs.toList[i]? with
    | none => rw [hy] at hx; simp at hx
    | some y => rw [hy] at hx; simp at hx; subst hx; exact ⟨y, rfl, ofV1_vr C y⟩
  · rfl
  · rfl
  · rename_i s; show Value.string s = _; congr 1
  · rfl
  · rfl
  · simp [VR, VD]
  · rename_i vs
    split
    · rename_i h; exact ⟨vs, rfl, (vrs_iff _ _).2 ⟨by simpa using h.symm, fun i x hx => by simp at hx⟩⟩
    · trivial
  · trivial

section
variable {P : Program} {w : World}
theorem run_und {t : Nat} {d : TypeDesc} (h : P.underlying t = some d) : (underlying t).run P w = .ok d w := by simp [underlying, h]
theorem run_inf {t : Nat} {i : TypeInfo} (h : P.info? t = some i) : (typeInfo t).run P w = .ok i w := by simp [typeInfo, h]
theorem run_sz {t : Nat} {i : TypeInfo} (h : P.info? t = some i) : (sizeOf t).run P w = .ok i.size w := by simp [sizeOf, run_inf h]
theorem run_zero {t : Nat} {i : TypeInfo} {z : Value} (h : P.info? t = some i) (hz : i.zero = some z) : (zeroValue t).run P w = .ok z w := by simp [zeroValue, run_inf h, hz]
theorem run_agg {t : Nat} {d : TypeDesc} (h : P.underlying t = some d) : (isAgg t).run P w = .ok (aggD d) w := by
  simp only [isAgg, Sem.run_bind, run_und h, Result.andThen_ok]
  cases d <;> rfl
end

def nval : Next → Option Value
  | .value v => some v
  | .skip => some undef
  | _ => none

def updL (g : Nat → Blk) : List (Nat × Blk) → Nat → Blk
  | [] => g
  | (b, x) :: r => updL (upd1 g b x) r

/-- What one operation comes to. -/
def Snd (C : Cx) (r : Result Next) (v : AV) (up : List (Nat × Blk)) : Prop :=
  ∃ n w', r = .ok n w' ∧ ∃ u, nval n = some u ∧ ∃ φ', VR ⟨φ', updL C.g up, C.Bo, C.G, w'⟩ v u ∧ HR ⟨φ', updL C.g up, C.Bo, C.G, w'⟩ ∧ Le C ⟨φ', updL C.g up, C.Bo, C.G, w'⟩

theorem snd_pure {C : Cx} (hH : HR C) {r : Result Next} {v : AV} {u : Value} (hr : r = .ok (.value u) C.w) (hv : VR C v u) : Snd C r v [] :=
  ⟨_, _, hr, u, rfl, C.φ, hv, hH, Le.refl C⟩

theorem vr_i {C : Cx} {k : IntKind} {n : Int} {v : Value} (h : VR C (.i k n) v) : v = .int k n := h
theorem vr_s {C : Cx} {l : List UInt8} {v : Value} (h : VR C (.s l) v) : v = .string ⟨l.toArray⟩ := h
theorem vr_b {C : Cx} {x : Bool} {v : Value} (h : VR C (.b x) v) : v = .bool x := h

theorem vr_cells {C : Cx} {a : AV} {v : Value} {xs : List AV} (h : VR C a v) (hc : a.cells? = some xs) : VRs C xs v.cells.toList := by
  have one : ∀ {a : AV} {v : Value}, VR C a v → v.cells = #[v] → VRs C [a] v.cells.toList := fun h e => by rw [e]; exact ⟨_, _, rfl, h, rfl⟩
  cases a with
  | agg cs => cases hc; obtain ⟨vs, rfl, h⟩ := h; exact h
  | tup cs => cases hc
  | u => cases hc
  | b x => cases hc; exact one h (by rw [vr_b h]; rfl)
  | i k n => cases hc; exact one h (by rw [vr_i h]; rfl)
  | s l => cases hc; exact one h (by rw [vr_s h]; rfl)
  | fz t n cs => cases hc; exact one h (by obtain ⟨a, c, rfl, _⟩ := h; rfl)
  | rp t cs off => cases hc; exact one h (by obtain ⟨a, c, rfl, _⟩ := h; rfl)
  | sl b off n cap => cases hc; exact one h (by obtain ⟨a, c, rfl, _⟩ := h; rfl)
  | p b off len => cases hc; exact one h (by obtain ⟨a, rfl, _⟩ := h; rfl)
  | mp b => cases hc; exact one h (by obtain ⟨a, rfl, _⟩ := h; rfl)
  | nilS => cases hc; exact one h (by rw [show v = .slice none 0 0 from h]; rfl)
  | nilP => cases hc; exact one h (by rw [show v = .pointer none from h]; rfl)
  | fn f cs => cases hc; exact one h (by obtain ⟨vs, rfl, h⟩ := h; rfl)
  | err x =>
    cases hc
    exact one h (by
      have h' : (if x then v = .nilIface else ∃ t y, v = .iface t y) := h
      cases x
      · obtain ⟨t, y, rfl⟩ := (by simpa using h'); rfl
      · have : v = .nilIface := by simpa using h'
        rw [this]; rfl)

theorem vr_scal {C : Cx} {a : AV} {v : Value} (h : VR C a v) (hc : a.scal = true) : v.oneCell' = true := by
  cases a with
  | agg cs => cases hc
  | tup cs => cases hc
  | u => cases hc
  | b x => rw [vr_b h]; rfl
  | i k n => rw [vr_i h]; rfl
  | s l => rw [vr_s h]; rfl
  | fz t n cs => obtain ⟨a, c, rfl, _⟩ := h; rfl
  | rp t cs off => obtain ⟨a, c, rfl, _⟩ := h; rfl
  | sl b off n cap => obtain ⟨a, c, rfl, _⟩ := h; rfl
  | p b off len => obtain ⟨a, rfl, _⟩ := h; rfl
  | mp b => obtain ⟨a, rfl, _⟩ := h; rfl
  | nilS => rw [show v = .slice none 0 0 from h]; rfl
  | nilP => rw [show v = .pointer none from h]; rfl
  | fn f cs => obtain ⟨vs, rfl, h⟩ := h; rfl
  | err x =>
    have h' : (if x then v = .nilIface else ∃ t y, v = .iface t y) := h
    cases x
    · obtain ⟨t, y, rfl⟩ := (by simpa using h'); rfl
    · have : v = .nilIface := by simpa using h'
      rw [this]; rfl

theorem add_off (blk off n : Nat) : (⟨blk, off, none⟩ : Addr).add n = ⟨blk, off + n, none⟩ := by unfold Addr.add; split <;> simp_all

/-- What is read at an abstract pointer. -/
theorem rdAt_ok {C : Cx} (hH : HR C) {a : AV} {v : Value} (h : VR C a v) {c : Prop} {cs : List AV} {off : Nat} (hr : rdAt C.g a = some (c, cs, off)) (hc : c) (hn : 0 < cs.length) :
    ∃ blk base, v = .pointer (some ⟨blk, base + off, none⟩) ∧ ∀ (i : Nat) x, cs[i]? = some x → ∃ u, C.w.cell? ⟨blk, base + i, none⟩ = some u ∧ VR C x u := by
  unfold rdAt at hr
  split at hr
  · rename_i b o len
    split at hr
    · rename_i sz cs' hg
      cases hr
      obtain ⟨ad, rfl, _, h2⟩ := h
      obtain ⟨h3, h4⟩ := h2 sz cs hg
      obtain rfl := h4 hc
      have h0 := hH.blk b
      rw [hg] at h0
      obtain ⟨_, _, arr, el, harr, hlen, hcc⟩ := h0.resolve_left (fun z => by rw [z] at hn; simp at hn)
      refine ⟨C.φ b, 0, by rw [Nat.zero_add], fun i x hx => ?_⟩
      obtain ⟨u, hu, hr⟩ := hcc i x hx
      exact ⟨u, by rw [Nat.zero_add, cell_of_heap harr]; exact hu, hr⟩
    · cases hr
  · rename_i t cs' o
    cases hr
    obtain ⟨blk, base, rfl, h⟩ := h
    refine ⟨blk, base, rfl, fun i x hx => ?_⟩
    rcases h with rfl | ⟨_, hm⟩
    · simp at hn
    · obtain ⟨u, hu, hd⟩ := (vdm_iff _ _ _).1 hm i x hx
      exact ⟨u, hu, vd_vr hd⟩
  · cases hr
where
  vd_vr {C : Cx} : ∀ {a : AV} {v : Value}, VD C.ok C.w a v → VR C a v
    | .b _, _, h => h
    | .i _ _, _, h => h
    | .s _, _, h => h
    | .fz .., _, h => h
    | .rp .., _, h => h
    | .nilS, _, h => h
    | .nilP, _, h => h
    | .err _, _, h => h
    | .u, _, h => trivial
    | .sl .., _, h => h.elim
    | .p .., _, h => h.elim
    | .mp .., _, h => h.elim
    | .agg cs, _, h => by
      obtain ⟨vs, rfl, h⟩ := h
      exact ⟨vs, rfl, vds_vrs h⟩
    | .tup cs, _, h => by
      obtain ⟨vs, rfl, h⟩ := h
      exact ⟨vs, rfl, vds_vrs h⟩
    | .fn f cs, _, h => by
      obtain ⟨vs, rfl, h⟩ := h
      exact ⟨vs, rfl, vds_vrs h⟩
  vds_vrs {C : Cx} : ∀ {as : List AV} {vs : List Value}, VDs C.ok C.w as vs → VRs C as vs
    | [], _, h => h
    | a :: as, vs, h => by
      obtain ⟨v, vs', rfl, h1, h2⟩ := h
      exact ⟨v, vs', rfl, vd_vr h1, vds_vrs h2⟩

theorem aLoad_var {P : Program} {T : TT} (hT : TOk P T) {C : Cx} (hH : HR C) {t : Nat} {val : Value} {a : AV} (ha : VR C a val)
    {c : Prop} {v : AV} {up : List (Nat × Blk)} (h : aLoad T C.g t a = some (c, v, up)) (hc : c) : up = [] ∧ ∃ ad u, val = .pointer (some ad) ∧ (loadVar t ad).run P C.w = .ok u C.w ∧ VR C v u := by
  unfold aLoad at h
  split at h
  · rename_i ti c' cs off hti hrd
    obtain ⟨⟨inf, hi, hsz, _, z, hz, hzo⟩, d, hu, _, hag⟩ := hT t ti hti
    split at h
    · rename_i hagg
      cases h
      by_cases hn : 0 < cs.length
      · obtain ⟨blk, base, hρ, hcell⟩ := rdAt_ok hH ha hrd hc.1 hn
        -- the cells, one by one
        have hex : ∀ (n : Nat), off + n ≤ cs.length → ∃ vs : List Value, vs.length = n ∧ (∀ j u, vs[j]? = some u → C.w.cell? ⟨blk, base + off + j, none⟩ = some u) ∧ VRs C ((cs.drop off).take n) vs := by
          intro n
          induction n with
          | zero => intro _; exact ⟨[], rfl, by simp, by simp [VRs]⟩
          | succ n ih =>
            intro hle
            obtain ⟨vs, hl, h1, h2⟩ := ih (by omega)
            have hlt : off + n < cs.length := by omega
            obtain ⟨u, hu1, hu2⟩ := hcell (off + n) cs[off + n] (by simp [hlt])
            refine ⟨vs ++ [u], by simp [hl], fun j y hy => ?_, ?_⟩
            · rw [List.getElem?_append] at hy
              split at hy
              · exact h1 j y hy
              · have : j = vs.length := by
                  have : j - vs.length < [u].length := by
                    rcases Nat.lt_or_ge (j - vs.length) [u].length with h' | h'
                    · exact h'
                    · simp [List.getElem?_eq_none h'] at hy
                  simp at this; omega
                subst this
                simp at hy
                subst hy
                rw [← hu1, hl]
                congr 2
                omega
            · rw [vrs_iff] at h2 ⊢
              obtain ⟨h3, h4⟩ := h2
              refine ⟨by simp at h3 ⊢; omega, fun i x hx => ?_⟩
              rw [List.getElem?_take] at hx
              split at hx
              · rename_i hin
                by_cases e : i = n
                · subst e
                  simp at hx
                  rw [List.getElem?_eq_getElem hlt] at hx
                  simp at hx
                  subst hx
                  exact ⟨u, by rw [List.getElem?_append_right (by omega)]; simp [hl], hu2⟩
                · obtain ⟨y, hy, hr⟩ := h4 i x (by rw [List.getElem?_take, if_pos (by omega)]; exact hx)
                  exact ⟨y, by rw [List.getElem?_append_left (by omega)]; exact hy, hr⟩
              · cases hx
        obtain ⟨vs, hl, h1, h2⟩ := hex ti.size hc.2
        have hrun := run_loadCells_list (P := P) C.w ⟨blk, base + off, none⟩ vs (fun j u hu => by rw [add_off]; exact h1 j u hu)
        rw [hl, ← hsz] at hrun
        refine ⟨rfl, ⟨blk, base + off, none⟩, .agg vs.toArray, hρ, ?_, vs.toArray, rfl, by simpa using h2⟩
        simp only [loadVar, Sem.run_bind, Sem.run_pure, Result.andThen_ok, run_agg hu, hag, hagg, if_true, run_sz hi, hrun]
      · -- no cells at all
        have hlen : cs = [] := List.eq_nil_of_length_eq_zero (by omega)
        subst hlen
        have hz0 : ti.size = 0 ∧ off = 0 := by have := hc.2; simp at this; omega
        have hptr : ∃ ad, val = .pointer (some ad) := by
          unfold rdAt at hrd
          split at hrd
          · obtain ⟨ad, hρ, _⟩ := ha; exact ⟨ad, hρ⟩
          · obtain ⟨blk, base, hρ, _⟩ := ha; exact ⟨_, hρ⟩
          · cases hrd
        obtain ⟨ad, hρ⟩ := hptr
        refine ⟨rfl, ad, .agg #[], hρ, ?_, #[], rfl, by simp [VRs]⟩
        have hs0 : inf.size = 0 := by rw [hsz]; exact hz0.1
        simp only [loadVar, Sem.run_bind, Sem.run_pure, Result.andThen_ok, run_agg hu, hag, hagg, if_true, run_sz hi, hs0, loadCells, loadCellsFrom]
    · rename_i hagg
      cases h
      have hagf : ti.agg = false := by simpa using hagg
      obtain ⟨blk, base, hρ, hcell⟩ := rdAt_ok hH ha hrd hc.1 (by have := hc.2; omega)
      have hlt := hc.2
      obtain ⟨u, hu1, hu2⟩ := hcell off cs[off] (by simp [hlt])
      refine ⟨rfl, ⟨blk, base + off, none⟩, u, hρ, ?_, by rw [List.getD_eq_getElem?_getD, List.getElem?_eq_getElem hlt]; exact hu2⟩
      simp only [loadVar, Sem.run_bind, Sem.run_pure, Result.andThen_ok, run_agg hu, hag, hagf, Bool.false_eq_true, if_false, run_load, hu1]
  · cases h

theorem aLoad_ok {P : Program} {T : TT} (hT : TOk P T) {C : Cx} (hH : HR C) {o : Oper} {ρ : Operand → Value} {t : Nat} {x : Operand} (ho : o.op = .load t x) {a : AV} (ha : VR C a (ρ x))
    {c : Prop} {v : AV} {up : List (Nat × Blk)} (h : aLoad T C.g t a = some (c, v, up)) (hc : c) : Snd C ((execOp ρ o).run P C.w) v up := by
  obtain ⟨rfl, ad, u, hρ, hrun, hv⟩ := aLoad_var hT hH ha h hc
  refine snd_pure hH (u := u) ?_ hv
  simp only [execOp, ho, hρ, Instr.loadAt, Instr.sureAddr, Sem.run_bind, Sem.run_pure, Result.andThen_ok, hrun]

end Go.Proofs.Ytdacfgclclpooaa
