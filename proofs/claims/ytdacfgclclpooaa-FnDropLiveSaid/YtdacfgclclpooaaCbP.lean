/- The abstract walk tells the truth of the model's walk. Conditions: the table of types fits the program. -/
import Derived.Test.YtdacfgclclpooaaCbO
import Derived.Tactics
namespace Go.Proofs.Ytdacfgclclpooaa
open Go Go.RowKit
set_option linter.unusedVariables false
set_option linter.unusedSimpArgs false
set_option linter.unusedSectionVars false

structure St (C0 : Cx) (N : Nat) (e : Env) (g : Nat → Blk) (a : Act) (φ : Nat → Nat) (w : World) : Prop where
  hr : HR ⟨φ, g, C0.Bo, C0.G, w⟩
  le : Le C0 ⟨φ, g, C0.Bo, C0.G, w⟩
  env : ∀ t, VR ⟨φ, g, C0.Bo, C0.G, w⟩ (eget e t) (a.tmps.getD t undef)
  size : a.tmps.size = N
  defers : a.defers = []

def Sta (C0 : Cx) (N : Nat) (e : Env) (g : Nat → Blk) (a : Act) (w : World) : Prop := ∃ φ, St C0 N e g a φ w

theorem undef_vr (C : Cx) : VR C (.tup []) undef := ⟨#[], rfl, rfl⟩

theorem ev_ok {C0 : Cx} {N : Nat} {e : Env} {g : Nat → Blk} {a : Act} {φ : Nat → Nat} {w : World} (h : St C0 N e g a φ w) (x : Operand) : VR ⟨φ, g, C0.Bo, C0.G, w⟩ (ev e C0.G x) (a.eval x) := by
  cases x with
  | tmp t => exact h.env t
  | const v => exact ofV_vr _ v
  | global i => exact rdAt_ok.vd_vr (h.hr.gl i)
  | func f => exact ⟨#[], rfl, rfl⟩

theorem St.put {C0 : Cx} {N : Nat} {e : Env} {g g' : Nat → Blk} {a : Act} {φ φ' : Nat → Nat} {w w' : World} (h : St C0 N e g a φ w) {d : Option Nat} {v : AV} {u : Value}
    (hd : ∀ t, d = some t → t < N) (hv : VR ⟨φ', g', C0.Bo, C0.G, w'⟩ v u) (hr : HR ⟨φ', g', C0.Bo, C0.G, w'⟩) (hle : Le ⟨φ, g, C0.Bo, C0.G, w⟩ ⟨φ', g', C0.Bo, C0.G, w'⟩) :
    St C0 N (eput e d v) g' (a.put d u) φ' w' := by
  refine ⟨hr, h.le.trans hle, fun t => ?_, ?_, ?_⟩
  · cases d with
    | none => exact hle.vr _ _ (h.env t)
    | some d =>
      simp only [eput, eget, Act.put]
      by_cases e1 : t = d
      · subst e1
        rw [if_pos rfl]
        have : t < a.tmps.size := by rw [h.size]; exact hd t rfl
        simp [this]
        exact hv
      · rw [if_neg e1]
        have := h.env t
        rw [Array.getD_eq_getD_getElem?, Array.getElem?_setIfInBounds_ne (fun x => e1 x.symm), ← Array.getD_eq_getD_getElem?]
        exact hle.vr _ _ this
  · cases d <;> simp [Act.put, h.size]
  · cases d <;> exact h.defers

theorem plain_go {X : Xp} (hT : TOk X.P X.T) {C0 : Cx} (hG : C0.G = X.G) {N : Nat} {e : Env} {g : Nat → Blk} {a : Act} {w : World} (h : Sta C0 N e g a w) {o : Oper} (hd : ∀ t, o.dst = some t → t < N) {id : Nat} (hid : g id = .hole)
    {c : Prop} {v : AV} {up : List (Nat × Blk)} (hop : aop X.T o.op (ev e X.G) g id = some (c, v, up)) (hc : c) {next : Act → World → Prop} {Q : Exit → Act → World → Prop}
    (hn : ∀ a' w', Sta C0 N (eput e o.dst v) (updL g up) a' w' → next a' w') : o.wp X.P a w next Q := by
  obtain ⟨φ, h⟩ := h
  rw [← hG] at hop
  obtain ⟨n, w', hrun, u, hu, φ', h1, h2, h3⟩ := aop_ok (C := ⟨φ, g, C0.Bo, C0.G, w⟩) hT h.hr (o := o) (ρ := a.eval) (ev := ev e C0.G) (fun x _ => ev_ok h x) hid hop hc
  unfold Oper.wp
  rw [show (execOp a.eval o).run X.P w = .ok n w' from hrun]
  cases n <;> simp only [nval, Option.some.injEq, reduceCtorEq] at hu
  · subst hu; exact hn _ _ ⟨φ', h.put hd h1 h2 h3⟩
  · subst hu; exact hn _ _ ⟨φ', h.put hd h1 h2 h3⟩

theorem call_go {X : Xp} {C0 : Cx} (hG : C0.G = X.G) {N : Nat} {e : Env} {g : Nat → Blk} {a : Act} {w : World} (h : Sta C0 N e g a w) {o : Oper} (hd : ∀ t, o.dst = some t → t < N)
    {f : Operand} {args : Array Operand} {ats : Array TypeId} (ho : o.op = .call ⟨.value f, args, ats⟩) {fn : Nat} {caps : List AV} (hf : ev e X.G f = .fn fn caps)
    {L M : List Nat} {v0 : AV} {H0 : Hp} (hic : IC X.P X.G fn (rss L true g ((args.toList.map (ev e X.G)) ++ caps)) (rsG L true g) v0 H0)
    (hnd : (L ++ M).Nodup) (hL : ∀ b ∈ L, g b ≠ .hole) (hM : ∀ b ∈ M, g b = .hole) (hlen : H0.length = (L ++ M).length)
    {next : Act → World → Prop} {Q : Exit → Act → World → Prop}
    (hn : ∀ a' w', Sta C0 N (eput e o.dst (un (L ++ M) v0)) (unG (L ++ M) H0 g) a' w' → next a' w') : o.wp X.P a w next Q := by
  obtain ⟨φ, h⟩ := h
  have hfr : VR ⟨φ, g, C0.Bo, C0.G, w⟩ (.fn fn caps) (a.eval f) := by rw [← hf, ← hG]; exact ev_ok h f
  obtain ⟨vs, hfv, hcaps⟩ := hfr
  obtain ⟨⟨fd, hfd, hname, hbody⟩, hcl1, hcl2, hcalls⟩ := hic
  have hargs := vrs_map (C := ⟨φ, g, C0.Bo, C0.G, w⟩) (ρ := a.eval) args.toList (ev e X.G) (fun x _ => by rw [← hG]; exact ev_ok h x)
  have hall := vrs_cat hargs hcaps
  obtain ⟨l1, l2⟩ := lend_hr (C := ⟨φ, g, C0.Bo, C0.G, w⟩) h.hr hnd hL hM
  have hcall := hcalls ((⟨φ, g, C0.Bo, C0.G, w⟩ : Cx).re L true ((⟨φ, g, C0.Bo, C0.G, w⟩ : Cx).lent L)) (args.map a.eval ++ vs) hG rfl l1 (by
    have := l2 _ _ hall
    simpa using this)
  have hrun : (execOp a.eval o).run X.P w = .ok (.enter fn (args.map a.eval ++ vs)) w := by
    have h1 : ¬ fd.name = "runtime.NumGoroutine" := by simpa using hname
    have h2 : ¬ fd.body = none := by cases hx : fd.body <;> simp_all
    simp [execOp, ho, resolve, hfv, Deferred.ofValue, invoke, callFunc, hfd, h1, h2]
  unfold Oper.wp
  rw [hrun, Oper.upon_enter]
  refine Calls.mono hcall fun en w' => ?_
  rintro ⟨r, φ', rfl, h1, h2, h3⟩
  obtain ⟨b1, b2, b3⟩ := back_ok (C := ⟨φ, g, C0.Bo, C0.G, w⟩) h.hr hnd hL hM rfl hlen hcl2 h2 h3
  exact hn _ _ ⟨_, h.put hd (b3 v0 r hcl1 h1) b2 b1⟩

theorem yielded_b {all : Array Oper} {tmps : Array Value} {j s : Nat} {x : Bool} (hs : gslot all j = some s) (h : tmps.getD s undef = .bool x) : yielded all tmps j = some x := by
  unfold yielded
  rw [show (all[j]?).bind (fun x => x.dst) = some s from hs]
  simp only [Option.bind_some]
  rw [Array.getD_eq_getD_getElem?] at h
  cases hx : tmps[s]? with
  | none => rw [hx] at h; cases h
  | some v => rw [hx] at h; simp at h; subst h; rfl

theorem yielded_t {all : Array Oper} {tmps : Array Value} {j s : Nat} (hs : gslot all j = some s) (h : tmps.getD s undef = .tuple #[]) : yielded all tmps j = none := by
  unfold yielded
  rw [show (all[j]?).bind (fun x => x.dst) = some s from hs]
  simp only [Option.bind_some]
  rw [Array.getD_eq_getD_getElem?] at h
  cases hx : tmps[s]? with
  | none => rfl
  | some v => rw [hx] at h; simp at h; subst h; rfl

/-- What an abstract continuation says of the model's states. -/
def QK (C0 : Cx) (N : Nat) (K : Kt) : Exit → Act → World → Prop
  | .normal, a, w => ∃ e h, Sta C0 N e (get h) a w ∧ K .norm e h
  | .exit id, a, w => ∃ e h, Sta C0 N e (get h) a w ∧ K (.exit id) e h
  | .ret, a, w => ∃ e h, Sta C0 N e (get h) a w ∧ K .ret e h
  | _, _, _ => False

/-- A value that is told more exactly. -/
theorem Sta.more {C0 : Cx} {N : Nat} {e : Env} {g : Nat → Blk} {a : Act} {w : World} (h : Sta C0 N e g a w) {s : Nat} {v : AV} (hs : eget e s = v) : Sta C0 N ((s, v) :: e) g a w := by
  obtain ⟨φ, h⟩ := h
  refine ⟨φ, h.hr, h.le, fun t => ?_, h.size, h.defers⟩
  simp only [eget]
  split
  · rename_i e1; subst e1; rw [← hs]; exact h.env _
  · exact h.env t

theorem Sta.skip {C0 : Cx} {N : Nat} {e : Env} {g : Nat → Blk} {a : Act} {w : World} (h : Sta C0 N e g a w) {d : Option Nat} (hd : ∀ t, d = some t → t < N) : Sta C0 N (eput e d (.tup [])) g (a.put d undef) w := by
  obtain ⟨φ, h⟩ := h
  exact ⟨φ, h.put hd (undef_vr _) h.hr (Le.refl _)⟩

theorem get_ge {h : Hp} {b : Nat} (hb : h.length ≤ b) : get h b = .hole := by
  simp [get, List.getD_eq_getElem?_getD, List.getElem?_eq_none hb]

theorem get_set {h : Hp} {b : Nat} (hb : b < h.length) (x : Blk) : get (h.set b x) = upd1 (get h) b x := by
  funext i
  simp only [get, List.getD_eq_getElem?_getD, upd1]
  by_cases e : i = b
  · subst e; simp [hb]
  · rw [if_neg e, List.getElem?_set_ne (fun x => e x.symm)]

theorem get_app {h : Hp} (x : Blk) : get (h ++ [x]) = upd1 (get h) h.length x := by
  funext i
  simp only [get, List.getD_eq_getElem?_getD, upd1]
  by_cases e : i = h.length
  · subst e; simp
  · rw [if_neg e]
    rcases Nat.lt_or_ge i h.length with h' | h'
    · rw [List.getElem?_append_left h']
    · rw [List.getElem?_eq_none (by simp; omega), List.getElem?_eq_none h']

/-- Every number is told already or the next one. -/
def upOk : Hp → List (Nat × Blk) → Prop
  | _, [] => True
  | h, (b, x) :: r => b ≤ h.length ∧ upOk (if b < h.length then h.set b x else h ++ [x]) r

theorem get_updH : ∀ (up : List (Nat × Blk)) (h : Hp), upOk h up → get (updH h up) = updL (get h) up
  | [], h, _ => rfl
  | (b, x) :: r, h, ho => by
    obtain ⟨h1, h2⟩ := ho
    rw [updH, updL, get_updH r _ h2]
    congr 1
    split
    · rename_i hb; exact get_set hb x
    · rename_i hb; have : b = h.length := by omega
      subst this; exact get_app x


theorem aop_up {T : TT} {o : Op} {ρ : Operand → AV} {g : Nat → Blk} {id : Nat} {c : Prop} {v : AV} {up : List (Nat × Blk)} (h : aop T o ρ g id = some (c, v, up)) :
    up = [] ∨ ∃ b x, up = [(b, x)] ∧ (b = id ∨ g b ≠ .hole) := by
  have pure0 : ∀ {v' : AV}, pureR v' = some (c, v, up) → up = [] := fun h => by cases h; rfl
  unfold aop at h
  split at h
  case h_1 => exact .inl (pure0 h)
  case h_2 => exact .inl (pure0 h)
  case h_3 => unfold aPick at h; split at h <;> first | (cases h; done) | exact .inl (pure0 h)
  case h_4 => unfold aAlloc at h; (repeat' split at h) <;> first | (cases h; done) | (cases h; exact .inr ⟨_, _, rfl, .inl rfl⟩)
  case h_5 => unfold aBox at h; (repeat' split at h) <;> first | (cases h; done) | (cases h; exact .inr ⟨_, _, rfl, .inl rfl⟩)
  case h_6 => unfold aBuild at h; (repeat' split at h) <;> first | (cases h; done) | exact .inl (pure0 h)
  case h_7 => unfold aBuildSlice at h; (repeat' split at h) <;> first | (cases h; done) | (cases h; exact .inr ⟨_, _, rfl, .inl rfl⟩)
  case h_8 => unfold aLoad at h; (repeat' split at h) <;> first | (cases h; done) | (cases h; exact .inl rfl)
  case h_9 =>
    unfold aStore at h
    split at h
    · split at h
      · rename_i hg
        split at h
        · cases h; exact .inr ⟨_, _, rfl, .inr (by rw [hg]; simp)⟩
        · cases h
      · cases h
    · cases h
  case h_10 => unfold aNilCheck at h; (repeat' split at h) <;> first | (cases h; done) | exact .inl (pure0 h)
  case h_11 =>
    unfold aBinOp at h
    split at h
    · split at h
      · cases h; exact .inl rfl
      · cases h; exact .inl rfl
      · split at h
        · unfold intOp at h; split at h <;> first | (cases h; done) | (cases h; exact .inl rfl)
        · cases h
    · unfold strOp at h; split at h <;> first | (cases h; done) | (cases h; exact .inl rfl)
    · split at h <;> first | (cases h; done) | (cases h; exact .inl rfl)
    · split at h <;> first | (cases h; done) | exact .inl (pure0 h)
  case h_12 => unfold aUn at h; (repeat' split at h) <;> first | (cases h; done) | exact .inl (pure0 h)
  case h_13 => unfold aConv aConv0 at h; (repeat' split at h) <;> first | (cases h; done) | exact .inl (pure0 h) | (cases h; exact .inl rfl)
  case h_14 => split at h <;> first | (cases h; done) | exact .inl (pure0 h)
  case h_15 => split at h <;> first | (cases h; done) | (cases h; exact .inr ⟨_, _, rfl, .inl rfl⟩)
  case h_16 => unfold aMakeSlice at h; (repeat' split at h) <;> first | (cases h; done) | (cases h; exact .inr ⟨_, _, rfl, .inl rfl⟩)
  case h_17 => unfold aSlice at h; (repeat' split at h) <;> first | (cases h; done) | (cases h; exact .inl rfl)
  case h_18 => unfold aFieldAddr at h; (repeat' split at h) <;> first | (cases h; done) | exact .inl (pure0 h)
  case h_19 => unfold aField at h; (repeat' split at h) <;> first | (cases h; done) | (cases h; exact .inl rfl)
  case h_20 => unfold aIndexAddr at h; (repeat' split at h) <;> first | (cases h; done) | (cases h; exact .inl rfl)
  case h_21 => unfold aIndex at h; (repeat' split at h) <;> first | (cases h; done) | (cases h; exact .inl rfl)
  case h_22 => unfold aLookup at h; (repeat' split at h) <;> first | (cases h; done) | exact .inl (pure0 h)
  case h_23 =>
    unfold aMapUpdate at h
    split at h
    · split at h
      · rename_i hg; cases h; exact .inr ⟨_, _, rfl, .inr (by rw [hg]; simp)⟩
      · cases h
    · cases h
  case h_24 =>
    unfold aMapUpdate at h
    split at h
    · split at h
      · rename_i hg; cases h; exact .inr ⟨_, _, rfl, .inr (by rw [hg]; simp)⟩
      · cases h
    · cases h
  case h_25 => unfold aExtract at h; (repeat' split at h) <;> first | (cases h; done) | exact .inl (pure0 h)
  case h_26 => unfold aMkI at h; (repeat' split at h) <;> first | (cases h; done) | exact .inl (pure0 h)
  case h_27 =>
    split at h
    · unfold aLen at h; (repeat' split at h) <;> first | (cases h; done) | exact .inl (pure0 h)
    · unfold aAppend at h
      split at h
      · split at h
        · split at h
          · split at h
            · split at h
              · rename_i hg
                split at h
                · split at h
                  · split at h
                    · cases h; exact .inr ⟨_, _, rfl, .inr (by rw [hg]; simp)⟩
                    · cases h; exact .inr ⟨_, _, rfl, .inr (by rw [hg]; simp)⟩
                  · cases h
                · cases h
              · cases h
            · split at h
              · cases h; exact .inr ⟨_, _, rfl, .inl rfl⟩
              · cases h
            · cases h
          · cases h
        · (repeat' split at h) <;> first | (cases h; done) | (cases h; exact .inr ⟨_, _, rfl, .inl rfl⟩)
        · cases h
      · cases h
    · unfold aCap at h; split at h <;> first | (cases h; done) | exact .inl (pure0 h)
    · unfold aCopy at h
      split at h
      · split at h
        · rename_i hg _
          split at h
          · cases h; exact .inr ⟨_, _, rfl, .inr (by rw [hg]; simp)⟩
          · cases h
        · cases h
      · cases h
    · cases h
  case h_28 => cases h

theorem upOk_of {h : Hp} {up : List (Nat × Blk)} (hu : up = [] ∨ ∃ b x, up = [(b, x)] ∧ (b = h.length ∨ get h b ≠ .hole)) : upOk h up := by
  rcases hu with rfl | ⟨b, x, rfl, hb⟩
  · trivial
  · refine ⟨?_, trivial⟩
    rcases hb with rfl | hb
    · exact Nat.le_refl _
    · rcases Nat.lt_or_ge b h.length with h' | h'
      · omega
      · exact absurd (get_ge h') hb

/-- The list's heap behind a call is the heap that the law tells. -/
theorem updL_zip : ∀ (J : List Nat) (xs : List Blk) (g : Nat → Blk), J.Nodup → J.length = xs.length → updL g (J.zip xs) = fun b => match J.idxOf? b with | some k => xs.getD k .hole | none => g b
  | [], xs, g, _, _ => by funext b; rfl
  | j :: J, [], g, _, h => by simp at h
  | j :: J, x :: xs, g, hn, h => by
    obtain ⟨h1, h2⟩ := List.nodup_cons.1 hn
    rw [List.zip_cons_cons, updL, updL_zip J xs _ h2 (by simpa using h)]
    funext b
    rw [List.idxOf?_cons]
    by_cases e : j = b
    · subst e
      have : J.idxOf? j = none := by
        cases hi : J.idxOf? j with
        | none => rfl
        | some k => exact absurd (List.mem_of_getElem? (idx_some hi)) h1
      simp [this]
    · have e' : (j == b) = false := by simpa using e
      simp only [e', Bool.false_eq_true, if_false]
      cases J.idxOf? b with
      | none => simp only [Option.map_none]; exact upd1_ne _ _ (fun x => e x.symm)
      | some k => simp

theorem get_bk {L : List Nat} {h H0 : Hp} (hnd : L.Nodup) (hL : ∀ b ∈ L, b < h.length ∧ get h b ≠ .hole) (hlen : L.length ≤ H0.length) :
    (ids L h H0).Nodup ∧ H0.length = (ids L h H0).length ∧ get (bk (ids L h H0) h H0) = unG (ids L h H0) H0 (get h) := by
  have hn : (ids L h H0).Nodup := by
    unfold ids
    rw [List.nodup_append]
    refine ⟨hnd, List.nodup_range' , fun a ha b hb e => ?_⟩
    subst e
    have h1 := (hL a ha).1
    have h2 := List.mem_range'_1.1 hb
    omega
  have hl : H0.length = (ids L h H0).length := by simp [ids]; omega
  refine ⟨hn, hl, ?_⟩
  have hok : ∀ (L : List Nat) (xs : List Blk) (h' : Hp) (m : Nat), h'.length = h.length → (∀ b ∈ L, b < h.length) → L.length ≤ xs.length → upOk h' ((L ++ List.range' h.length m).zip xs) := by
    intro L
    induction L with
    | nil =>
      intro xs h' m hl' _ _
      rw [List.nil_append]
      have : ∀ (m : Nat) (xs : List Blk) (h' : Hp) (s : Nat), h'.length = s → upOk h' ((List.range' s m).zip xs) := by
        intro m
        induction m with
        | zero => intro xs h' s _; simp [upOk]
        | succ m ih =>
          intro xs h' s hs
          cases xs with
          | nil => simp [upOk]
          | cons x xs =>
            rw [List.range'_succ, List.zip_cons_cons]
            refine ⟨by omega, ?_⟩
            rw [if_neg (by omega)]
            exact ih xs _ _ (by simp [hs])
      exact this m xs h' _ hl'
    | cons b L ih =>
      intro xs h' m hl' hb hx
      cases xs with
      | nil => simp at hx
      | cons x xs =>
        rw [List.cons_append, List.zip_cons_cons]
        have hb1 := hb b (by simp)
        refine ⟨by omega, ?_⟩
        rw [if_pos (by omega)]
        exact ih xs _ m (by simp [hl']) (fun b' hb' => hb b' (by simp [hb'])) (by simpa using hx)
  have hup : upOk h ((ids L h H0).zip (H0.map (unB (ids L h H0)))) := hok L _ h _ rfl (fun b hb => (hL b hb).1) (by simpa using hlen)
  rw [bk, get_updH _ _ hup, updL_zip _ _ _ hn (by rw [List.length_map]; exact hl.symm)]
  funext b
  unfold unG
  cases hi : (ids L h H0).idxOf? b with
  | none => rfl
  | some k =>
    simp only []
    have hk : k < H0.length := by
      rw [hl]
      have := idx_some hi
      rcases Nat.lt_or_ge k (ids L h H0).length with h' | h'
      · exact h'
      · simp [List.getElem?_eq_none h'] at this
    simp [get, List.getD_eq_getElem?_getD, hk]

/-- Every slot of a region lies in the frame. -/
def dstOk (N : Nat) : Code → Bool
  | .region _ ops _ => ops.all fun o => match o.dst with | some d => decide (d < N) | none => true
  | .seq a b => dstOk N a && dstOk N b
  | .cond _ a b => dstOk N a && dstOk N b
  | .block _ a => dstOk N a
  | .loop a => dstOk N a
  | _ => true

section
variable {X : Xp} (hT : TOk X.P X.T) {C0 : Cx} (hG : C0.G = X.G) {N : Nat} {all : Array Oper}
include hT hG

theorem runS_ok (Q : Exit → Act → World → Prop) (K : Kt) (hQ : ∀ e h a w, Sta C0 N e (get h) a w → K .norm e h → Q .normal a w) : ∀ (os : List Oper) (e : Env) (h : Hp) (a : Act) (w : World), (∀ o ∈ os, ∀ d, o.dst = some d → d < N) →
    runS X none (sOps all os) e h none K → Sta C0 N e (get h) a w → wpList X.P all Q os a w
  | [], e, h, a, w, _, hr, hs => hQ e h a w hs hr
  | o :: os, e, h, a, w, hd, hr, hs => by
    have hdo := hd o (by simp)
    have ih := fun e h a w hr hs => runS_ok Q K hQ os e h a w (fun o' ho' => hd o' (by simp [ho'])) hr hs
    rw [sOps, runS] at hr
    have exec : ∀ e1, Sta C0 N e1 (get h) a w → execP X o.dst o.op (fun e h acc => runS X none (sOps all os) e h acc K) e1 h none → o.wp X.P a w (wpList X.P all Q os) Q := by
      intro e1 hs1 hx
      unfold execP at hx
      split at hx
      · rename_i f args ats ho
        obtain ⟨fn, caps, L, v0, H0, hf, hic, hnd, hL, hlen, hnext⟩ := hx
        obtain ⟨g1, g2, g3⟩ := get_bk hnd hL hlen
        refine call_go hG hs1 hdo ho hf hic g1 (fun b hb => (hL b hb).2) (fun b hb => get_ge ?_) g2 (fun a' w' hs' => ih _ _ _ _ hnext ?_)
        · have := List.mem_range'_1.1 hb; omega
        · rw [g3]; exact hs'
      · rename_i hnc
        unfold plainP at hx
        split at hx
        · exact hx.elim
        · rename_i c v up hop
          obtain ⟨hc, hnext⟩ := hx
          refine plain_go hT hG hs1 hdo (get_ge (Nat.le_refl _)) hop hc (fun a' w' hs' => ih _ _ _ _ hnext ?_)
          rw [get_updH _ _ (upOk_of (aop_up hop))]
          exact hs'
    rw [wpList]
    unfold gdP at hr
    simp only at hr
    cases hg : o.guard with
    | none =>
      rw [hg] at hr
      have hw : Region.wanted o (yielded all a.tmps) = true := by simp [Region.wanted, hg]
      rw [if_pos hw]
      exact .inl (exec e hs hr)
    | some p =>
      obtain ⟨j, want⟩ := p
      rw [hg] at hr
      simp only [Option.map_some] at hr
      cases hgs : gslot all j with
      | none => rw [hgs] at hr; exact hr.elim
      | some s =>
        rw [hgs] at hr
        simp only at hr
        obtain ⟨φ, hst⟩ := id hs
        have hvs := hst.env s
        split at hr
        · rename_i x hx
          rw [hx] at hvs
          have hy := yielded_b hgs (vr_b hvs)
          by_cases hxw : x = want
          · subst hxw
            have hw : Region.wanted o (yielded all a.tmps) = true := by simp [Region.wanted, hg, hy]
            rw [if_pos hw]
            exact .inl (exec _ (hs.more hx) (hr.1 rfl))
          · have hw : ¬ (Region.wanted o (yielded all a.tmps) = true) := by simp [Region.wanted, hg, hy, hxw]
            rw [if_neg hw]
            have hxn : x = !want := by cases x <;> cases want <;> simp_all
            exact ih _ _ _ _ (hr.2 hxn) ((hs.more (by rw [hx, hxn])).skip hdo)
        · rename_i hx
          rw [hx] at hvs
          obtain ⟨vs, hv1, hv2⟩ := hvs
          have : vs = #[] := by have : vs.toList = [] := hv2; simpa using this
          subst this
          have hy := yielded_t hgs hv1
          have hw : ¬ (Region.wanted o (yielded all a.tmps) = true) := by simp [Region.wanted, hg, hy]
          rw [if_neg hw]
          exact ih _ _ _ _ hr (hs.skip hdo)
        · exact hr.elim

end
end Go.Proofs.Ytdacfgclclpooaa
