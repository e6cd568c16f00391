/- The abstract walk tells the truth where the model draws the order of a region, 2: any order that the edges allow. Conditions: operations that wait for none of each other touch neither slots nor blocks of each other. -/
import Derived.Test.YtdacfgclclpooaaCbQ
namespace Go.Proofs.Ytdacfgclclpooaa
open Go Go.RowKit
set_option linter.unusedVariables false
set_option linter.unusedSimpArgs false
set_option linter.unusedSectionVars false

theorem Sta.ext {C0 : Cx} {N : Nat} {e e' : Env} {g g' : Nat → Blk} {a : Act} {w : World} (h : Sta C0 N e g a w) (he : ∀ t, eget e' t = eget e t) (hg : ∀ b, g' b = g b) : Sta C0 N e' g' a w := by
  obtain rfl : g' = g := funext hg
  obtain ⟨φ, h⟩ := h
  exact ⟨φ, h.hr, h.le, fun t => by rw [he t]; exact h.env t, h.size, h.defers⟩

structure Eff where
  v : AV
  up : List (Nat × Blk)
  t : List Nat

/-- An operation does this wherever its operands and the blocks that it touches are as told. -/
def Good (X : Xp) (C0 : Cx) (N : Nat) (all : Array Oper) (i : Nat) (o : Oper) (e : Env) (g : Nat → Blk) (f : Eff) : Prop :=
  ∀ (e1 : Env) (g1 : Nat → Blk), (∀ t ∈ o.looksAt all, eget e1 t = eget e t) → (∀ b, b ∈ f.t ∨ b ∈ f.up.map (·.1) → g1 b = g b) → (∃ n, ∀ b, n ≤ b → g1 b = .hole) →
    ∀ (a : Act) (w : World), Sta C0 N e1 g1 a w → ∀ (next : Act → World → Prop) (Q : Exit → Act → World → Prop), (∀ a' w', Sta C0 N (eput e1 o.dst f.v) (updL g1 f.up) a' w' → next a' w') → wpOp X.P all Q i next a w

inductive Chain (X : Xp) (C0 : Cx) (N : Nat) (all : Array Oper) : Nat → List Oper → List Eff → Env → Hp → Env → Hp → Prop where
  | nil {k e h} : Chain X C0 N all k [] [] e h e h
  | cons {k o os f fs e h e1 h1 e' h'} (hg : Good X C0 N all k o e (get h) f) (he : ∀ t, eget e1 t = eget (eput e o.dst f.v) t) (hh : get h1 = updL (get h) f.up)
      (rest : Chain X C0 N all (k + 1) os fs e1 h1 e' h') : Chain X C0 N all k (o :: os) (f :: fs) e h e' h'

theorem eput_ext {e e' : Env} (h : ∀ t, eget e' t = eget e t) (d : Option Nat) (v : AV) (t : Nat) : eget (eput e' d v) t = eget (eput e d v) t := by
  cases d with
  | none => exact h t
  | some d => simp only [eput, eget]; split <;> first | rfl | exact h t

theorem updL_unG {J : List Nat} {H0 : Hp} (hn : J.Nodup) (hl : H0.length = J.length) (g : Nat → Blk) : updL g (J.zip (H0.map (unB J))) = unG J H0 g := by
  rw [updL_zip _ _ _ hn (by rw [List.length_map]; exact hl.symm)]
  funext b
  unfold unG
  cases hi : J.idxOf? b with
  | none => rfl
  | some j =>
    simp only []
    have hj : j < H0.length := by
      rw [hl]
      have := idx_some hi
      rcases Nat.lt_or_ge j J.length with h' | h'
      · exact h'
      · simp [List.getElem?_eq_none h'] at this
    simp [get, List.getD_eq_getElem?_getD, hj]

section
variable {X : Xp} (hT : TOk X.P X.T) {C0 : Cx} (hG : C0.G = X.G) {N : Nat} {all : Array Oper}
include hT hG

theorem chain_of (K : Kt) : ∀ (os : List Oper) (k : Nat) (e : Env) (h : Hp) (acc : List (List Nat × List Nat)), (∀ j, os[j]? = all[k + j]?) → (∀ o ∈ os, ∀ d, o.dst = some d → d < N) →
    runS X (some all) (sOps all os) e h (some acc) K →
    ∃ fs e' h', Chain X C0 N all k os fs e h e' h' ∧ drawOK all (acc.reverse ++ fs.map fun f => (f.t, f.up.map (·.1))) = true ∧ K .norm e' h'
  | [], k, e, h, acc, hos, hd, hr => by
    obtain ⟨h1, h2⟩ : drawOK all acc.reverse = true ∧ K .norm e h := hr
    exact ⟨[], e, h, .nil, by simpa using h1, h2⟩
  | o :: os, k, e, h, acc, hos, hd, hr => by
    have hdo := hd o (by simp)
    have hk : all[k]? = some o := by simpa using (hos 0).symm
    have ih := fun e h acc hr => chain_of K os (k + 1) e h acc (fun j => by have := hos (j + 1); simpa [Nat.add_assoc, Nat.add_comm 1 j] using this) (fun o' ho' => hd o' (by simp [ho'])) hr
    rw [sOps, runS] at hr
    -- an operation that is carried out
    have exec : ∀ e1, (∀ t, eget e1 t = eget e t) → (∀ (e2 : Env) (a : Act) (w : World) (g2 : Nat → Blk), (∀ t ∈ o.looksAt all, eget e2 t = eget e t) → Sta C0 N e2 g2 a w → Region.wanted o (yielded all a.tmps) = true) →
        execP X o.dst o.op (fun e h acc => runS X (some all) (sOps all os) e h acc K) e1 h (some acc) →
        ∃ f e3 h3, Good X C0 N all k o e (get h) f ∧ (∀ t, eget e3 t = eget (eput e o.dst f.v) t) ∧ get h3 = updL (get h) f.up ∧ runS X (some all) (sOps all os) e3 h3 (some ((f.t, f.up.map (·.1)) :: acc)) K := by
      intro e1 he1 hwant hx
      have hev : ∀ x ∈ o.op.operands.toList, ∀ e2 : Env, (∀ t ∈ o.looksAt all, eget e2 t = eget e t) → ev e2 X.G x = ev e1 X.G x := fun x hx e2 he2 => by
        cases x with
        | tmp t => exact (he2 t (by unfold Oper.looksAt; exact List.mem_append_left _ (List.mem_filterMap.2 ⟨.tmp t, hx, rfl⟩))).trans (he1 t).symm
        | _ => rfl
      unfold execP at hx
      split at hx
      · rename_i f args ats ho
        obtain ⟨fn, caps, L, v0, H0, hf, hic, hnd, hL, hlen, hnext⟩ := hx
        obtain ⟨g1', g2', g3'⟩ := get_bk hnd hL hlen
        refine ⟨⟨un (ids L h H0) v0, (ids L h H0).zip (H0.map (unB (ids L h H0))), idsAll (args.toList.map (ev e1 X.G) ++ caps) ++ (L ++ L.flatMap fun b => idsB (get h b))⟩, eput e1 o.dst (un (ids L h H0) v0), bk (ids L h H0) h H0, ?_, fun t => eput_ext he1 _ _ t, ?_, ?_⟩
        · intro e2 g2 he2 hg2 _ a w hs next Q hn
          have hfst : ((ids L h H0).zip (H0.map (unB (ids L h H0)))).map (·.1) = ids L h H0 := by
            rw [List.map_fst_zip]; rw [List.length_map]; exact Nat.le_of_eq g2'.symm
          have hargs : args.toList.map (ev e2 X.G) = args.toList.map (ev e1 X.G) := List.map_congr_left fun x hx => hev x (by rw [ho]; simp [Op.operands, Call.operands]; simpa using Or.inr hx) e2 he2
          have hfe : ev e2 X.G f = .fn fn caps := by rw [← hf]; exact hev f (by rw [ho]; simp [Op.operands, Call.operands]) e2 he2
          have hgi : ∀ b ∈ idsAll (args.toList.map (ev e1 X.G) ++ caps), get h b = g2 b := fun b hb => (hg2 b (.inl (List.mem_append_left _ hb))).symm
          have hgL : ∀ b ∈ L, get h b = g2 b ∧ ∀ b' ∈ idsB (get h b), get h b' = g2 b' := fun b hb =>
            ⟨(hg2 b (.inl (List.mem_append_right _ (List.mem_append_left _ hb)))).symm, fun b' hb' => (hg2 b' (.inl (List.mem_append_right _ (List.mem_append_right _ (List.mem_flatMap.2 ⟨b, hb, hb'⟩))))).symm⟩
          have hic2 : IC X.P X.G fn (rss L true g2 ((args.toList.map (ev e2 X.G)) ++ caps)) (rsG L true g2) v0 H0 := by
            rw [hargs, ← rss_congr _ hgi, ← rsG_congr hgL]; exact hic
          have hids : ids L h H0 = L ++ List.range' h.length (H0.length - L.length) := rfl
          have hwp : o.wp X.P a w next Q := call_go hG hs hdo ho hfe hic2 g1' (fun b hb => by rw [← (hgL b hb).1]; exact (hL b hb).2) (fun b hb => by
              rw [hg2 b (.inr (by rw [hfst, hids]; exact List.mem_append_right _ hb))]
              have := List.mem_range'_1.1 hb
              exact get_ge (by omega)) g2' (fun a' w' hs' => hn a' w' (hs'.ext (fun _ => rfl) (fun b => by
                exact congrFun (updL_unG g1' g2' g2) b)))
          unfold wpOp
          simp only [hk]
          rw [if_pos (hwant e2 a w g2 he2 hs)]
          exact .inl hwp
        · rw [g3']; exact (updL_unG g1' g2' (get h)).symm
        · have hfst : ((ids L h H0).zip (H0.map (unB (ids L h H0)))).map (·.1) = ids L h H0 := by
            rw [List.map_fst_zip]; rw [List.length_map]; exact Nat.le_of_eq g2'.symm
          rw [hfst]
          exact hnext
      · unfold plainP at hx
        split at hx
        · exact hx.elim
        · rename_i c v up hop
          obtain ⟨hc, hnext⟩ := hx
          refine ⟨⟨v, up, tch (ev e1 X.G) o.op⟩, _, _, ?_, fun t => eput_ext he1 _ _ t, get_updH _ _ (upOk_of (aop_up hop)), hnext⟩
          intro e2 g2 he2 hg2 hhole a w hs next Q hn
          have hop2 : aop X.T o.op (ev e2 X.G) g2 h.length = some (c, v, up) := by
            rw [← hop]
            exact (aop_congr (fun x hx => (hev x hx e2 he2).symm) (fun b hb => (hg2 b (.inl hb)).symm)).symm
          have hwp : o.wp X.P a w next Q := by
            rcases aop_up hop with rfl | ⟨b, x, rfl, hb⟩
            · obtain ⟨n, hn'⟩ := hhole
              exact plain_go hT hG hs hdo (hn' n (Nat.le_refl _)) (aop_id hop2) hc hn
            · by_cases hbl : b = h.length
              · exact plain_go hT hG hs hdo (by rw [hg2 h.length (.inr (by simp [hbl]))]; exact get_ge (Nat.le_refl _)) hop2 hc hn
              · -- an own block is written: no new number is asked
                obtain ⟨n, hn'⟩ := hhole
                exact plain_go hT hG hs hdo (hn' n (Nat.le_refl _)) (aop_old hop2 hbl) hc hn
          unfold wpOp
          simp only [hk]
          rw [if_pos (hwant e2 a w g2 he2 hs)]
          exact .inl hwp
    have fin : (∃ f e3 h3, Good X C0 N all k o e (get h) f ∧ (∀ t, eget e3 t = eget (eput e o.dst f.v) t) ∧ get h3 = updL (get h) f.up ∧ runS X (some all) (sOps all os) e3 h3 (some ((f.t, f.up.map (·.1)) :: acc)) K) →
        ∃ fs e' h', Chain X C0 N all k (o :: os) fs e h e' h' ∧ drawOK all (acc.reverse ++ fs.map fun f => (f.t, f.up.map (·.1))) = true ∧ K .norm e' h' := by
      rintro ⟨f, e3, h3, h4, h5, h6, h7⟩
      obtain ⟨fs, e', h', h8, h9, h10⟩ := ih e3 h3 _ h7
      exact ⟨f :: fs, e', h', .cons h4 h5 h6 h8, by simpa using h9, h10⟩
    -- an operation that is passed by
    have skip : ∀ e1, (∀ t, eget e1 t = eget e t) → (∀ (e2 : Env) (a : Act) (w : World) (g2 : Nat → Blk), (∀ t ∈ o.looksAt all, eget e2 t = eget e t) → Sta C0 N e2 g2 a w → ¬ (Region.wanted o (yielded all a.tmps) = true)) →
        runS X (some all) (sOps all os) (eput e1 o.dst (.tup [])) h (some (([], []) :: acc)) K →
        ∃ f e3 h3, Good X C0 N all k o e (get h) f ∧ (∀ t, eget e3 t = eget (eput e o.dst f.v) t) ∧ get h3 = updL (get h) f.up ∧ runS X (some all) (sOps all os) e3 h3 (some ((f.t, f.up.map (·.1)) :: acc)) K := by
      intro e1 he1 hwant hx
      refine ⟨⟨.tup [], [], []⟩, _, h, ?_, fun t => eput_ext he1 _ _ t, rfl, hx⟩
      intro e2 g2 he2 hg2 _ a w hs next Q hn
      unfold wpOp
      simp only [hk]
      rw [if_neg (hwant e2 a w g2 he2 hs)]
      exact hn _ _ (hs.skip hdo)
    unfold gdP at hr
    simp only at hr
    cases hg : o.guard with
    | none =>
      rw [hg] at hr
      exact fin (exec e (fun _ => rfl) (fun _ _ _ _ _ _ => by simp [Region.wanted, hg]) hr)
    | some p =>
      obtain ⟨j, want⟩ := p
      rw [hg] at hr
      simp only [Option.map_some] at hr
      cases hgs : gslot all j with
      | none => rw [hgs] at hr; exact hr.elim
      | some s =>
        rw [hgs] at hr
        simp only at hr
        have hlook : s ∈ o.looksAt all := by
          unfold Oper.looksAt
          rw [hg]
          exact List.mem_append_right _ (by simp only []; rw [show (all[j]?).bind (fun x => x.dst) = some s from hgs]; simp)
        split at hr
        · rename_i x hx
          have hy : ∀ (e2 : Env) (a : Act) (w : World) (g2 : Nat → Blk), (∀ t ∈ o.looksAt all, eget e2 t = eget e t) → Sta C0 N e2 g2 a w → yielded all a.tmps j = some x := fun e2 a w g2 he2 hs => by
            obtain ⟨φ, hst⟩ := hs
            have hvs := hst.env s
            rw [he2 s hlook, hx] at hvs
            exact yielded_b hgs (vr_b hvs)
          have hmore : ∀ y, y = x → ∀ t, eget ((s, AV.b y) :: e) t = eget e t := fun y hyx t => by
            simp only [eget]; split
            · rename_i e1; subst e1; rw [hx, hyx]
            · rfl
          by_cases hxw : x = want
          · subst hxw
            exact fin (exec _ (hmore _ rfl) (fun e2 a w g2 he2 hs => by simp [Region.wanted, hg, hy e2 a w g2 he2 hs]) (hr.1 rfl))
          · have hxn : x = !want := by cases x <;> cases want <;> simp_all
            exact fin (skip _ (hmore _ hxn.symm) (fun e2 a w g2 he2 hs => by simp [Region.wanted, hg, hy e2 a w g2 he2 hs, hxw]) (hr.2 hxn))
        · rename_i hx
          refine fin (skip _ (fun _ => rfl) (fun e2 a w g2 he2 hs => ?_) hr)
          obtain ⟨φ, hst⟩ := hs
          have hvs := hst.env s
          rw [he2 s hlook, hx] at hvs
          obtain ⟨vs, hv1, hv2⟩ := hvs
          have : vs = #[] := by have : vs.toList = [] := hv2; simpa using this
          subst this
          simp [Region.wanted, hg, yielded_t hgs hv1]
        · exact hr.elim
where
  aop_old {T : TT} {o : Op} {ρ : Operand → AV} {g : Nat → Blk} {id id' b : Nat} {c : Prop} {v : AV} {x : Blk} (h : aop T o ρ g id = some (c, v, [(b, x)])) (hb : b ≠ id) : aop T o ρ g id' = some (c, v, [(b, x)]) := by
    cases o <;> simp only [aop] at h ⊢ <;> first
      | exact h
      | (unfold aAlloc at h; (repeat' split at h) <;> cases h; exact absurd rfl hb)
      | (unfold aBox at h; (repeat' split at h) <;> cases h; exact absurd rfl hb)
      | (unfold aBuildSlice at h; (repeat' split at h) <;> cases h; exact absurd rfl hb)
      | (unfold aMakeSlice at h; (repeat' split at h) <;> cases h; exact absurd rfl hb)
      | skip
    case makeMap t r => cases r <;> cases h; exact absurd rfl hb
    case lookup t x y ok => cases ok <;> exact h
    case call cl =>
      split at h
      · exact h
      · unfold aAppend at h ⊢
        split at h
        · split at h
          · split at h
            · rename_i hcond
              rw [if_pos hcond]
              split at h
              · exact h
              · split at h
                · cases h; exact absurd rfl hb
                · cases h
              · cases h
            · cases h
          · (repeat' split at h) <;> cases h; exact absurd rfl hb
          · cases h
        · cases h
      · exact h
      · exact h
      · cases h
end

/-! ### any order -/

/-- The slots when the operations of S are through, told in the order of the text. -/
def eS (S : Nat → Bool) : Nat → List Oper → List Eff → Env → Env
  | k, o :: os, f :: fs, e => eS S (k + 1) os fs (if S k then eput e o.dst f.v else e)
  | _, _, _, e => e
def gS (S : Nat → Bool) : Nat → List Eff → (Nat → Blk) → Nat → Blk
  | k, f :: fs, g => gS S (k + 1) fs (if S k then updL g f.up else g)
  | _, [], g => g

theorem updL_other : ∀ (up : List (Nat × Blk)) (g : Nat → Blk) (b : Nat), b ∉ up.map (·.1) → updL g up b = g b
  | [], g, b, _ => rfl
  | (x, y) :: r, g, b, h => by
    rw [updL, updL_other r _ b (fun h' => h (by simp at h' ⊢; exact .inr h'))]
    exact upd1_ne _ _ (fun e => h (by simp [e]))

theorem updL_same : ∀ (up : List (Nat × Blk)) (g g' : Nat → Blk) (b : Nat), (b ∈ up.map (·.1) ∨ g b = g' b) → updL g up b = updL g' up b
  | [], g, g', b, h => h.resolve_left (by simp)
  | (x, y) :: r, g, g', b, h => by
    rw [updL, updL]
    apply updL_same r
    rcases h with h | h
    · simp at h
      rcases h with h | h
      · right; rw [h]; simp
      · left; simpa using h
    · by_cases e : b = x
      · right; rw [e]; simp
      · right; rw [upd1_ne _ _ e, upd1_ne _ _ e]; exact h

theorem eput_same {e e' : Env} {t : Nat} (d : Option Nat) (v : AV) (h : d = some t ∨ eget e t = eget e' t) : eget (eput e d v) t = eget (eput e' d v) t := by
  cases d with
  | none => simpa [eput] using h
  | some d =>
    simp only [eput, eget]
    by_cases e1 : t = d
    · rw [if_pos e1, if_pos e1]
    · rw [if_neg e1, if_neg e1]
      exact h.resolve_left (fun x => e1 (by simpa using x.symm))

theorem eput_other {e : Env} {t : Nat} (d : Option Nat) (v : AV) (h : d ≠ some t) : eget (eput e d v) t = eget e t := by
  cases d with
  | none => rfl
  | some d => simp only [eput, eget]; rw [if_neg (fun x => h (by rw [x]))]

/-- A slot at which S and S' agree, operation by operation. -/
theorem eS_same {S S' : Nat → Bool} {t : Nat} : ∀ (os : List Oper) (fs : List Eff) (k : Nat) (e e' : Env), eget e t = eget e' t → (∀ j o, os[j]? = some o → o.dst = some t → S (k + j) = S' (k + j)) → eget (eS S k os fs e) t = eget (eS S' k os fs e') t
  | [], fs, k, e, e', h, _ => by cases fs <;> exact h
  | o :: os, [], k, e, e', h, _ => h
  | o :: os, f :: fs, k, e, e', h, hs => by
    rw [eS, eS]
    refine eS_same os fs (k + 1) _ _ ?_ (fun j o' ho' hd => by have := hs (j + 1) o' (by simpa using ho') hd; rwa [show k + (j + 1) = k + 1 + j by omega] at this)
    by_cases hd : o.dst = some t
    · have h0 := hs 0 o rfl hd
      simp only [Nat.add_zero] at h0
      rw [h0]
      split
      · exact eput_same _ _ (.inl hd)
      · exact h
    · have h1 : ∀ (b : Bool) (e : Env), eget (if b = true then eput e o.dst f.v else e) t = eget e t := fun b e => by
        split
        · exact eput_other _ _ hd
        · rfl
      rw [h1, h1]; exact h

theorem gS_same {S S' : Nat → Bool} {b : Nat} : ∀ (fs : List Eff) (k : Nat) (g g' : Nat → Blk), g b = g' b → (∀ j f, fs[j]? = some f → b ∈ f.up.map (·.1) → S (k + j) = S' (k + j)) → gS S k fs g b = gS S' k fs g' b
  | [], k, g, g', h, _ => h
  | f :: fs, k, g, g', h, hs => by
    rw [gS, gS]
    refine gS_same fs (k + 1) _ _ ?_ (fun j f' hf' hb => by have := hs (j + 1) f' (by simpa using hf') hb; rwa [show k + (j + 1) = k + 1 + j by omega] at this)
    by_cases hb : b ∈ f.up.map (·.1)
    · have h0 := hs 0 f rfl hb
      simp only [Nat.add_zero] at h0
      rw [h0]
      split
      · exact updL_same _ _ _ _ (.inl hb)
      · exact h
    · have h1 : ∀ (c : Bool) (g : Nat → Blk), (if c = true then updL g f.up else g) b = g b := fun c g => by
        split
        · exact updL_other _ _ _ hb
        · rfl
      rw [h1, h1]; exact h

/-- Operation i told last: none of those told that came behind it in the text fills its slot. -/
theorem eS_last {S : Nat → Bool} {i : Nat} {oi : Oper} {fi : Eff} (hi : S i = false) : ∀ (os : List Oper) (fs : List Eff) (k : Nat) (e : Env), k ≤ i → os[i - k]? = some oi → fs[i - k]? = some fi →
    (∀ j o t, os[j]? = some o → o.dst = some t → oi.dst = some t → S (k + j) = true → k + j < i) → ∀ t, eget (eput (eS S k os fs e) oi.dst fi.v) t = eget (eS (fun j => S j || j == i) k os fs e) t
  | [], fs, k, e, hk, ho, hf, hs, t => by simp at ho
  | o :: os, [], k, e, hk, ho, hf, hs, t => by simp at hf
  | o :: os, f :: fs, k, e, hk, ho, hf, hs, t => by
    by_cases e1 : k = i
    · subst e1
      simp at ho hf
      subst ho hf
      rw [eS, eS]
      simp only [hi, Bool.false_eq_true, if_false, BEq.rfl, Bool.or_true, if_true]
      by_cases hd : o.dst = some t
      · -- the slot itself: nothing behind it fills it
        have h1 : eget (eput (eS S (k + 1) os fs e) o.dst f.v) t = eget (eput e o.dst f.v) t := eput_same _ _ (.inl hd)
        rw [h1]
        have h2 : ∀ (os : List Oper) (fs : List Eff) (m : Nat) (e : Env), k < m → (∀ j o', os[j]? = some o' → o'.dst = some t → (S (m + j) || (m + j == k)) = false) → eget (eS (fun j => S j || j == k) m os fs e) t = eget e t := by
          intro os
          induction os with
          | nil => intro fs m e _ _; cases fs <;> rfl
          | cons o' os ih =>
            intro fs m e hm hz
            cases fs with
            | nil => rfl
            | cons f' fs =>
              rw [eS, ih fs (m + 1) _ (by omega) (fun j o'' ho'' hd'' => by have := hz (j + 1) o'' (by simpa using ho'') hd''; rwa [show m + (j + 1) = m + 1 + j by omega] at this)]
              by_cases hd' : o'.dst = some t
              · have := hz 0 o' rfl hd'
                simp only [Nat.add_zero] at this
                simp only [this, Bool.false_eq_true, if_false]
              · split
                · exact eput_other _ _ hd'
                · rfl
        rw [h2 os fs (k + 1) _ (by omega) (fun j o' ho' hd' => by
          have : S (k + 1 + j) = false := by
            cases hS : S (k + 1 + j) with
            | false => rfl
            | true =>
              have := hs (j + 1) o' t (by simpa using ho') hd' hd (by rw [show k + (j + 1) = k + 1 + j by omega]; exact hS)
              omega
          have h3 : (k + 1 + j == k) = false := by simp; omega
          rw [this, h3]; rfl)]
      · rw [eput_other _ _ hd]
        refine eS_same os fs (k + 1) _ _ (eput_other _ _ hd).symm (fun j o' _ _ => ?_)
        have h3 : (k + 1 + j == k) = false := by simp; omega
        rw [h3, Bool.or_false]
    · rw [eS, eS]
      have h4 : (k == i) = false := by simpa using e1
      have ih := eS_last (oi := oi) (fi := fi) hi os fs (k + 1) (if S k = true then eput e o.dst f.v else e) (by omega) (by rw [show i - k = (i - (k + 1)) + 1 by omega] at ho; simpa using ho)
        (by rw [show i - k = (i - (k + 1)) + 1 by omega] at hf; simpa using hf) (fun j o' t' h5 h6 h7 h8 => by
          have := hs (j + 1) o' t' (by simpa using h5) h6 h7 (by rw [show k + (j + 1) = k + 1 + j by omega]; exact h8)
          omega) t
      rw [ih]
      simp only [h4, Bool.or_false]

theorem gS_last {S : Nat → Bool} {i : Nat} {fi : Eff} (hi : S i = false) : ∀ (fs : List Eff) (k : Nat) (g : Nat → Blk), k ≤ i → fs[i - k]? = some fi →
    (∀ j f b, fs[j]? = some f → b ∈ f.up.map (·.1) → b ∈ fi.up.map (·.1) → S (k + j) = true → k + j < i) → ∀ b, updL (gS S k fs g) fi.up b = gS (fun j => S j || j == i) k fs g b
  | [], k, g, hk, hf, hs, b => by simp at hf
  | f :: fs, k, g, hk, hf, hs, b => by
    by_cases e1 : k = i
    · subst e1
      simp at hf
      subst hf
      rw [gS, gS]
      simp only [hi, Bool.false_eq_true, if_false, BEq.rfl, Bool.or_true, if_true]
      by_cases hb : b ∈ f.up.map (·.1)
      · rw [updL_same f.up (gS S (k + 1) fs g) g b (.inl hb)]
        have h2 : ∀ (fs : List Eff) (m : Nat) (g : Nat → Blk), k < m → (∀ j f', fs[j]? = some f' → b ∈ f'.up.map (·.1) → (S (m + j) || (m + j == k)) = false) → gS (fun j => S j || j == k) m fs g b = g b := by
          intro fs
          induction fs with
          | nil => intro m g _ _; rfl
          | cons f' fs ih =>
            intro m g hm hz
            rw [gS, ih (m + 1) _ (by omega) (fun j f'' hf'' hb'' => by have := hz (j + 1) f'' (by simpa using hf'') hb''; rwa [show m + (j + 1) = m + 1 + j by omega] at this)]
            by_cases hb' : b ∈ f'.up.map (·.1)
            · have := hz 0 f' rfl hb'
              simp only [Nat.add_zero] at this
              simp only [this, Bool.false_eq_true, if_false]
            · split
              · exact updL_other _ _ _ hb'
              · rfl
        rw [h2 fs (k + 1) _ (by omega) (fun j f' hf' hb' => by
          have : S (k + 1 + j) = false := by
            cases hS : S (k + 1 + j) with
            | false => rfl
            | true =>
              have := hs (j + 1) f' b (by simpa using hf') hb' hb (by rw [show k + (j + 1) = k + 1 + j by omega]; exact hS)
              omega
          have h3 : (k + 1 + j == k) = false := by simp; omega
          rw [this, h3]; rfl)]
      · rw [updL_other _ _ _ hb]
        refine gS_same fs (k + 1) _ _ (updL_other _ _ _ hb).symm (fun j f' _ _ => ?_)
        have h3 : (k + 1 + j == k) = false := by simp; omega
        rw [h3, Bool.or_false]
    · rw [gS, gS]
      have h4 : (k == i) = false := by simpa using e1
      have ih := gS_last (fi := fi) hi fs (k + 1) (if S k = true then updL g f.up else g) (by omega)
        (by rw [show i - k = (i - (k + 1)) + 1 by omega] at hf; simpa using hf) (fun j f' b' h5 h6 h7 h8 => by
          have := hs (j + 1) f' b' (by simpa using h5) h6 h7 (by rw [show k + (j + 1) = k + 1 + j by omega]; exact h8)
          omega) b
      rw [ih]
      simp only [h4, Bool.or_false]

theorem eS_none : ∀ (os : List Oper) (fs : List Eff) (k : Nat) (e : Env), eS (fun _ => false) k os fs e = e
  | [], fs, k, e => by cases fs <;> rfl
  | o :: os, [], k, e => rfl
  | o :: os, f :: fs, k, e => by rw [eS, eS_none os fs]; rfl
theorem gS_none : ∀ (fs : List Eff) (k : Nat) (g : Nat → Blk), gS (fun _ => false) k fs g = g
  | [], k, g => rfl
  | f :: fs, k, g => by rw [gS, gS_none fs]; rfl

theorem eS_lt {k : Nat} : ∀ (os : List Oper) (fs : List Eff) (m : Nat) (e : Env), k ≤ m → eS (fun j => decide (j < k)) m os fs e = e
  | [], fs, m, e, h => by cases fs <;> rfl
  | o :: os, [], m, e, h => rfl
  | o :: os, f :: fs, m, e, h => by
    rw [eS, eS_lt os fs (m + 1) _ (by omega)]
    have : decide (m < k) = false := by simp; omega
    rw [this]; rfl
theorem gS_lt {k : Nat} : ∀ (fs : List Eff) (m : Nat) (g : Nat → Blk), k ≤ m → gS (fun j => decide (j < k)) m fs g = g
  | [], m, g, h => rfl
  | f :: fs, m, g, h => by
    rw [gS, gS_lt fs (m + 1) _ (by omega)]
    have : decide (m < k) = false := by simp; omega
    rw [this]; rfl

theorem eS_ext {S : Nat → Bool} : ∀ (os : List Oper) (fs : List Eff) (k : Nat) (e e' : Env), (∀ t, eget e t = eget e' t) → ∀ t, eget (eS S k os fs e) t = eget (eS S k os fs e') t :=
  fun os fs k e e' h t => eS_same os fs k e e' (h t) (fun _ _ _ _ => rfl)

theorem eS_all {S S' : Nat → Bool} : ∀ (os : List Oper) (fs : List Eff) (k : Nat) (e : Env), (∀ j, j < os.length → S (k + j) = S' (k + j)) → eS S k os fs e = eS S' k os fs e
  | [], fs, k, e, h => by cases fs <;> rfl
  | o :: os, [], k, e, h => rfl
  | o :: os, f :: fs, k, e, h => by
    have h0 := h 0 (by simp)
    simp only [Nat.add_zero] at h0
    rw [eS, eS, h0]
    exact eS_all os fs (k + 1) _ (fun j hj => by have := h (j + 1) (by simp; omega); rwa [show k + (j + 1) = k + 1 + j by omega] at this)
theorem gS_all {S S' : Nat → Bool} : ∀ (fs : List Eff) (k : Nat) (g : Nat → Blk), (∀ j, j < fs.length → S (k + j) = S' (k + j)) → gS S k fs g = gS S' k fs g
  | [], k, g, h => rfl
  | f :: fs, k, g, h => by
    have h0 := h 0 (by simp)
    simp only [Nat.add_zero] at h0
    rw [gS, gS, h0]
    exact gS_all fs (k + 1) _ (fun j hj => by have := h (j + 1) (by simp; omega); rwa [show k + (j + 1) = k + 1 + j by omega] at this)

/-- What the chain tells of operation i, in the words of the states. -/
theorem chain_at {X : Xp} {C0 : Cx} {N : Nat} {all : Array Oper} : ∀ {k : Nat} {os : List Oper} {fs : List Eff} {e : Env} {h : Hp} {e' : Env} {h' : Hp}, Chain X C0 N all k os fs e h e' h' →
    os.length = fs.length ∧ (∀ t, eget e' t = eget (eS (fun _ => true) k os fs e) t) ∧ get h' = gS (fun _ => true) k fs (get h) ∧
    ∀ (j : Nat) o f, os[j]? = some o → fs[j]? = some f → ∃ ej hj, Good X C0 N all (k + j) o ej hj f ∧ (∀ t, eget ej t = eget (eS (fun i => decide (i < k + j)) k os fs e) t) ∧ hj = gS (fun i => decide (i < k + j)) k fs (get h)
  | k, _, _, e, h, _, _, .nil => ⟨rfl, fun _ => rfl, rfl, fun j o f ho _ => by simp at ho⟩
  | k, o :: os, f :: fs, e, h, e', h', .cons (e1 := e1) (h1 := h1) hg he hh rest => by
    obtain ⟨r1, r2, r3, r4⟩ := chain_at rest
    refine ⟨by simp [r1], fun t => ?_, ?_, fun j o' f' ho' hf' => ?_⟩
    · rw [r2 t, eS]
      exact eS_ext os fs (k + 1) _ _ (fun t => by rw [he t]; simp) t
    · rw [r3, gS, hh]; simp
    · cases j with
      | zero =>
        simp at ho' hf'
        subst ho' hf'
        refine ⟨e, get h, hg, fun t => ?_, ?_⟩
        · rw [eS_lt _ _ _ _ (Nat.le_of_eq (Nat.add_zero k))]
        · rw [gS_lt _ _ _ (Nat.le_of_eq (Nat.add_zero k))]
      | succ j =>
        obtain ⟨ej, hj, g1, g2, g3⟩ := r4 j o' f' (by simpa using ho') (by simpa using hf')
        have hlt : decide (k < k + (j + 1)) = true := by simp
        refine ⟨ej, hj, by rw [show k + (j + 1) = k + 1 + j by omega]; exact g1, fun t => ?_, ?_⟩
        · rw [g2 t, eS, hlt, if_pos rfl, show k + 1 + j = k + (j + 1) by omega]
          exact eS_ext os fs (k + 1) _ _ he t
        · rw [g3, gS, hlt, if_pos rfl, show k + 1 + j = k + (j + 1) by omega, hh]

end Go.Proofs.Ytdacfgclclpooaa
