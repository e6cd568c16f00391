/- The abstract walk tells the truth where the model draws the order of a region. Conditions: operations that wait for none of each other touch neither slots nor blocks of each other. -/
import Derived.Test.YtdacfgclclpooaaCbP
namespace Go.Proofs.Ytdacfgclclpooaa
open Go Go.RowKit
set_option linter.unusedVariables false
set_option linter.unusedSimpArgs false
set_option linter.unusedSectionVars false

/-! ### an abstract operation asks only its operands and the blocks that they name -/

theorem rdAt_congr {g g' : Nat → Blk} {a : AV} (h : ∀ b ∈ idsOf a, g b = g' b) : rdAt g a = rdAt g' a := by
  cases a <;> simp only [rdAt]
  rename_i b off len
  rw [h b (by simp [idsOf])]

theorem rowOf_congr {g g' : Nat → Blk} {a : AV} (h : ∀ b ∈ idsOf a, g b = g' b) : rowOf g a = rowOf g' a := by
  cases a <;> simp only [rowOf]
  rename_i b off n cap
  rw [h b (by simp [idsOf])]

theorem appSrc_congr {g g' : Nat → Blk} {sz b : Nat} {a : AV} (h : ∀ b ∈ idsOf a, g b = g' b) : appSrc g sz b a = appSrc g' sz b a := by
  cases a <;> simp only [appSrc]
  rename_i b' off n cap
  rw [h b' (by simp [idsOf])]

theorem idsAll_mem : ∀ {as : List AV} {a : AV} {b : Nat}, a ∈ as → b ∈ idsOf a → b ∈ idsAll as
  | x :: as, a, b, ha, hb => by
    rw [idsAll, List.mem_append]
    rcases List.mem_cons.1 ha with rfl | ha
    · exact .inl hb
    · exact .inr (idsAll_mem ha hb)

theorem aStore_congr {T : TT} {g g' : Nat → Blk} {t : Nat} {a x : AV} (h : ∀ b ∈ idsOf a, g b = g' b) : aStore T g t a x = aStore T g' t a x := by
  unfold aStore
  cases T t <;> cases a <;> cases x.cells? <;> try simp only
  rename_i b off len xs
  rw [h b (by simp [idsOf])]

theorem aSlice_congr {T : TT} {g g' : Nat → Blk} {t : Nat} {a : AV} {lo hi mx : Option AV} (h : ∀ b ∈ idsOf a, g b = g' b) : aSlice T g t a lo hi mx = aSlice T g' t a lo hi mx := by
  unfold aSlice
  cases mx with
  | some z =>
    cases z <;> try simp only
    cases T t with
    | none => rfl
    | some ti =>
      obtain ⟨_, _, _, _, d⟩ := ti
      cases d <;> try simp only
      rename_i e
      cases T e <;> try simp only
      cases a <;> try simp only
      rename_i b off n cap
      rw [h b (by simp [idsOf])]
  | none =>
    cases T t with
    | none => rfl
    | some ti =>
      obtain ⟨_, _, _, _, d⟩ := ti
      cases d <;> try simp only
      rename_i e
      cases T e <;> try simp only
      cases a <;> try simp only
      rename_i b off n cap
      rw [h b (by simp [idsOf])]

theorem aIndexAddr_congr {T : TT} {g g' : Nat → Blk} {t : Nat} {a ix : AV} (h : ∀ b ∈ idsOf a, g b = g' b) : aIndexAddr T g t a ix = aIndexAddr T g' t a ix := by
  unfold aIndexAddr
  cases ix <;> try simp only
  cases T t with
  | none => rfl
  | some ti =>
    obtain ⟨_, _, _, _, d⟩ := ti
    cases d <;> try simp only
    rename_i e
    cases T e <;> try simp only
    cases a <;> try simp only
    rename_i b off n cap
    rw [h b (by simp [idsOf])]

theorem aLookup_congr {T : TT} {g g' : Nat → Blk} {t : Nat} {a k : AV} (h : ∀ b ∈ idsOf a, g b = g' b) : aLookup T g t a k = aLookup T g' t a k := by
  unfold aLookup
  cases T t with
  | none => rfl
  | some ti =>
    obtain ⟨_, _, _, _, d⟩ := ti
    cases d <;> try simp only
    cases a <;> try simp only
    cases k <;> try simp only
    rename_i b l
    rw [h b (by simp [idsOf])]

theorem aMapUpdate_congr {T : TT} {g g' : Nat → Blk} {t : Nat} {a k v : AV} (h : ∀ b ∈ idsOf a, g b = g' b) : aMapUpdate T g t a k v = aMapUpdate T g' t a k v := by
  unfold aMapUpdate
  cases T t with
  | none => rfl
  | some ti =>
    obtain ⟨_, _, _, _, d⟩ := ti
    cases d <;> try simp only
    cases a <;> try simp only
    cases k <;> try simp only
    cases v <;> try simp only
    rename_i b l x
    rw [h b (by simp [idsOf])]

theorem aAppend_congr {T : TT} {g g' : Nat → Blk} {id st xt : Nat} {s x : AV} (h : ∀ b ∈ idsOf s, g b = g' b) (h' : ∀ b ∈ idsOf x, g b = g' b) : aAppend T g id st xt s x = aAppend T g' id st xt s x := by
  unfold aAppend
  cases T st with
  | none => rfl
  | some ti =>
    obtain ⟨_, _, _, _, d⟩ := ti
    cases d <;> try simp only
    rename_i e
    cases T e <;> try simp only
    cases T xt with
    | none => try rfl
    | some ti =>
      obtain ⟨_, _, _, _, d⟩ := ti
      cases d <;> try simp only
      split
      · cases s <;> try simp only
        · rename_i b off n cap
          rw [h b (by simp [idsOf])]
          simp only [appSrc_congr h']
        · rw [appSrc_congr h']
      · rfl

theorem aCopy_congr {T : TT} {g g' : Nat → Blk} {t : Nat} {s x : AV} (h : ∀ b ∈ idsOf s, g b = g' b) (h' : ∀ b ∈ idsOf x, g b = g' b) : aCopy T g t s x = aCopy T g' t s x := by
  unfold aCopy
  cases T t with
  | none => rfl
  | some ti =>
    obtain ⟨_, _, _, _, d⟩ := ti
    cases d <;> try simp only
    rename_i e
    cases s <;> try simp only
    rename_i b off n cap
    rw [h b (by simp [idsOf]), rowOf_congr h']

theorem aop_congr {T : TT} {o : Op} {ρ ρ' : Operand → AV} {g g' : Nat → Blk} {id : Nat} (hρ : ∀ x ∈ o.operands.toList, ρ x = ρ' x) (hg : ∀ b ∈ tch ρ o, g b = g' b) : aop T o ρ g id = aop T o ρ' g' id := by
  cases o <;> simp only [Op.operands] at hρ <;> simp only [aop]
  case move x => rw [hρ x (by simp)]
  case assign x => rw [hρ x (by simp)]
  case pick c a b => rw [hρ c (by simp), hρ a (by simp), hρ b (by simp)]
  case box t x => rw [hρ x (by simp)]
  case build t ps =>
    congr 1
    apply List.map_congr_left
    intro p hp
    rw [hρ p.2 (by simp; exact ⟨p.1, by simpa using hp⟩)]
  case buildSlice t n ps =>
    congr 1
    apply List.map_congr_left
    intro p hp
    rw [hρ p.2 (by simp; exact ⟨p.1, by simpa using hp⟩)]
  case load t x =>
    rw [← hρ x (by simp)]
    unfold aLoad
    rw [rdAt_congr hg]
  case store t x y =>
    rw [← hρ x (by simp), ← hρ y (by simp)]
    exact aStore_congr hg
  case nilCheck x => rw [hρ x (by simp)]
  case binOp op t x y t2 => rw [hρ x (by simp), hρ y (by simp)]
  case unOp op t x => rw [hρ x (by simp)]
  case convert s d x =>
    rw [← hρ x (by simp)]
    unfold aConv
    rw [rowOf_congr hg]
  case makeFunc fn first cap =>
    have : cap.toList.map ρ = cap.toList.map ρ' := List.map_congr_left fun x hx => hρ x (by simp; exact .inr (by simpa using hx))
    rw [this]
  case makeSlice t x y => rw [hρ x (by simp), hρ y (by simp)]
  case slice t x lo hi mx =>
    have h1 : lo.map ρ = lo.map ρ' := by cases lo with | none => rfl | some z => simp only [Option.map_some]; rw [hρ z (by simp)]
    have h2 : hi.map ρ = hi.map ρ' := by cases hi with | none => rfl | some z => simp only [Option.map_some]; rw [hρ z (by simp)]
    have h3 : mx.map ρ = mx.map ρ' := by cases mx with | none => rfl | some z => simp only [Option.map_some]; rw [hρ z (by simp)]
    rw [← hρ x (by simp), h1, h2, h3]
    exact aSlice_congr hg
  case fieldAddr s x f => rw [hρ x (by simp)]
  case field s x f => rw [hρ x (by simp)]
  case indexAddr t x y =>
    rw [← hρ x (by simp), ← hρ y (by simp)]
    exact aIndexAddr_congr hg
  case index t x y => rw [hρ x (by simp), hρ y (by simp)]
  case lookup t x k ok =>
    cases ok with
    | true => rfl
    | false =>
      show aLookup T g t (ρ x) (ρ k) = aLookup T g' t (ρ' x) (ρ' k)
      rw [← hρ x (by simp), ← hρ k (by simp)]
      exact aLookup_congr hg
  case mapUpdate t m k v =>
    rw [← hρ m (by simp), ← hρ k (by simp), ← hρ v (by simp)]
    exact aMapUpdate_congr hg
  case insert t m k v =>
    rw [← hρ m (by simp), ← hρ k (by simp), ← hρ v (by simp)]
    exact aMapUpdate_congr hg
  case extract x k => rw [hρ x (by simp)]
  case call c =>
    obtain ⟨cl, args, ats⟩ := c
    simp only [Call.operands] at hρ
    simp only
    split
    · rename_i x t ts ha ht
      have hx : x ∈ args.toList := by rw [ha]; simp
      rw [hρ x (by simp; simpa using hx)]
    · rename_i x y st xt ha ht
      have hx : x ∈ args.toList := by rw [ha]; simp
      have hy : y ∈ args.toList := by rw [ha]; simp
      have hg1 : ∀ z ∈ args.toList, ∀ b ∈ idsOf (ρ z), g b = g' b := fun z hz b hb => hg b (idsAll_mem (List.mem_map_of_mem hz) hb)
      rw [← hρ x (by simp; simpa using hx), ← hρ y (by simp; simpa using hy)]
      exact aAppend_congr (hg1 x hx) (hg1 y hy)
    · rename_i x t ts ha ht
      have hx : x ∈ args.toList := by rw [ha]; simp
      rw [hρ x (by simp; simpa using hx)]
    · rename_i x y t ts ha ht
      have hx : x ∈ args.toList := by rw [ha]; simp
      have hy : y ∈ args.toList := by rw [ha]; simp
      have hg1 : ∀ z ∈ args.toList, ∀ b ∈ idsOf (ρ z), g b = g' b := fun z hz b hb => hg b (idsAll_mem (List.mem_map_of_mem hz) hb)
      rw [← hρ x (by simp; simpa using hx), ← hρ y (by simp; simpa using hy)]
      exact aCopy_congr (hg1 x hx) (hg1 y hy)
    · rfl

mutual
theorem rs_congr {L : List Nat} {t : Bool} {g g' : Nat → Blk} : ∀ (a : AV), (∀ b ∈ idsOf a, g b = g' b) → rs L t g a = rs L t g' a
  | .sl b .., h => by simp only [rs]; rw [h b (by simp [idsOf])]
  | .p b .., h => by simp only [rs]; rw [h b (by simp [idsOf])]
  | .mp b, h => by simp only [rs]
  | .agg cs, h => by simp only [rs]; rw [rss_congr cs (by simpa [idsOf] using h)]
  | .tup cs, h => by simp only [rs]; rw [rss_congr cs (by simpa [idsOf] using h)]
  | .fn f cs, h => by simp only [rs]; rw [rss_congr cs (by simpa [idsOf] using h)]
  | .b _, _ => rfl
  | .i _ _, _ => rfl
  | .s _, _ => rfl
  | .fz .., _ => rfl
  | .rp .., _ => rfl
  | .nilS, _ => rfl
  | .nilP, _ => rfl
  | .err _, _ => rfl
  | .u, _ => rfl
theorem rss_congr {L : List Nat} {t : Bool} {g g' : Nat → Blk} : ∀ (as : List AV), (∀ b ∈ idsAll as, g b = g' b) → rss L t g as = rss L t g' as
  | [], _ => rfl
  | a :: as, h => by
    simp only [rss]
    rw [rs_congr a (fun b hb => h b (by rw [idsAll]; simp [hb])), rss_congr as (fun b hb => h b (by rw [idsAll]; simp [hb]))]
end

theorem rsG_congr {L : List Nat} {t : Bool} {g g' : Nat → Blk} (h : ∀ b ∈ L, g b = g' b ∧ ∀ b' ∈ idsB (g b), g b' = g' b') : rsG L t g = rsG L t g' := by
  unfold rsG
  apply List.map_congr_left
  intro b hb
  obtain ⟨h1, h2⟩ := h b hb
  rw [← h1]
  cases hg : g b with
  | cells sz cs =>
    simp only [rsB]
    rw [← rss_map, ← rss_map]
    congr 1
    exact rss_congr cs (by rw [hg] at h2; exact h2)
  | _ => rfl

/-- Where an operation makes no block, the next number is nothing to it. -/
theorem aop_id {T : TT} {o : Op} {ρ : Operand → AV} {g : Nat → Blk} {id id' : Nat} {c : Prop} {v : AV} (h : aop T o ρ g id = some (c, v, [])) : aop T o ρ g id' = some (c, v, []) := by
  cases o <;> simp only [aop] at h ⊢ <;> first
    | exact h
    | (unfold aAlloc at h; (repeat' split at h) <;> cases h; done)
    | (unfold aBox at h; (repeat' split at h) <;> cases h; done)
    | (unfold aBuildSlice at h; (repeat' split at h) <;> cases h; done)
    | (unfold aMakeSlice at h; (repeat' split at h) <;> cases h; done)
    | skip
  case makeMap t r => cases r <;> cases h
  case lookup t x y ok => cases ok <;> exact h
  case call cl =>
    split at h
    · exact h
    · unfold aAppend at h
      (repeat' split at h) <;> cases h
    · exact h
    · exact h
    · cases h

end Go.Proofs.Ytdacfgclclpooaa
