/- A value told more loosely; contracts under that; what a call of a contract comes to. Conditions: none. -/
import Derived.Test.YtdacfgclclpooaaCbU
namespace Go.Proofs.Ytdacfgclclpooaa
open Go Go.RowKit
set_option linter.unusedVariables false
set_option linter.unusedSimpArgs false
set_option linter.unusedSectionVars false

mutual
/-- What is told by the first may be told by the second. -/
def sub : AV → AV → Prop
  | .nilS, .fz _ n cs => n = 0 ∧ cs = []
  | .fz t n cs, .fz t' n' cs' => (t = true → t' = true) ∧ n = n' ∧ cs = cs'
  | .rp t cs off, .rp t' cs' off' => (t = true → t' = true) ∧ cs = cs' ∧ off = off'
  | .agg as, .agg bs => subs as bs
  | .tup as, .tup bs => subs as bs
  | _, .u => True
  | a, b => a = b
def subs : List AV → List AV → Prop
  | [], [] => True
  | a :: as, b :: bs => sub a b ∧ subs as bs
  | _, _ => False
end

theorem ok_tag {C : Cx} {t t' : Bool} (h : t = true → t' = true) {c : Nat} (hc : C.ok t c) : C.ok t' c :=
  ⟨hc.1, fun ht => hc.2 (by cases t with | false => rfl | true => rw [h rfl] at ht; cases ht)⟩

theorem sub_fz {C : Cx} {t t' : Bool} {n : Nat} {cs : List AV} {v : Value} (h : t = true → t' = true) (hv : VR C (.fz t n cs) v) : VR C (.fz t' n cs) v := by
  obtain ⟨a, c, rfl, hn, h1⟩ := hv
  refine ⟨a, c, rfl, hn, h1.imp id ?_⟩
  rintro ⟨hl, blk, off, rfl, ho, hm⟩
  exact ⟨hl, blk, off, rfl, ok_tag h ho, hm⟩
theorem sub_rp {C : Cx} {t t' : Bool} {off : Nat} {cs : List AV} {v : Value} (h : t = true → t' = true) (hv : VR C (.rp t cs off) v) : VR C (.rp t' cs off) v := by
  obtain ⟨blk, base, rfl, h1⟩ := hv
  refine ⟨blk, base, rfl, h1.imp id ?_⟩
  rintro ⟨ho, hm⟩
  exact ⟨ok_tag h ho, hm⟩

mutual
theorem sub_vr {C : Cx} : ∀ (a b : AV) (v : Value), sub a b → VR C a v → VR C b v
  | a, .u, _, _, _ => trivial
  | .nilS, b, v, h, hv => by
    cases b <;> simp only [sub, reduceCtorEq] at h
    · obtain ⟨rfl, rfl⟩ := h
      obtain rfl : v = .slice none 0 0 := hv
      exact ⟨none, 0, rfl, Nat.le_refl _, .inl rfl⟩
    · exact hv
    · trivial
  | .fz t n cs, b, v, h, hv => by
    cases b <;> simp only [sub, reduceCtorEq] at h
    · obtain ⟨h1, rfl, rfl⟩ := h; exact sub_fz h1 hv
    · trivial
  | .rp t cs off, b, v, h, hv => by
    cases b <;> simp only [sub, reduceCtorEq] at h
    · obtain ⟨h1, rfl, rfl⟩ := h; exact sub_rp h1 hv
    · trivial
  | .agg as, b, v, h, hv => by
    cases b <;> simp only [sub, reduceCtorEq] at h
    · rename_i bs; obtain ⟨vs, rfl, hv⟩ := hv; exact ⟨vs, rfl, subs_vrs as bs _ h hv⟩
    · trivial
  | .tup as, b, v, h, hv => by
    cases b <;> simp only [sub, reduceCtorEq] at h
    · rename_i bs; obtain ⟨vs, rfl, hv⟩ := hv; exact ⟨vs, rfl, subs_vrs as bs _ h hv⟩
    · trivial
  | .b _, b, v, h, hv => by cases b <;> simp only [sub, reduceCtorEq] at h <;> first | (rw [← h]; exact hv) | trivial
  | .i _ _, b, v, h, hv => by cases b <;> simp only [sub, reduceCtorEq] at h <;> first | (rw [← h]; exact hv) | trivial
  | .s _, b, v, h, hv => by cases b <;> simp only [sub, reduceCtorEq] at h <;> first | (rw [← h]; exact hv) | trivial
  | .sl .., b, v, h, hv => by cases b <;> simp only [sub, reduceCtorEq] at h <;> first | (rw [← h]; exact hv) | trivial
  | .p .., b, v, h, hv => by cases b <;> simp only [sub, reduceCtorEq] at h <;> first | (rw [← h]; exact hv) | trivial
  | .mp _, b, v, h, hv => by cases b <;> simp only [sub, reduceCtorEq] at h <;> first | (rw [← h]; exact hv) | trivial
  | .fn .., b, v, h, hv => by cases b <;> simp only [sub, reduceCtorEq] at h <;> first | (rw [← h]; exact hv) | trivial
  | .nilP, b, v, h, hv => by cases b <;> simp only [sub, reduceCtorEq] at h <;> first | exact hv | trivial
  | .err _, b, v, h, hv => by cases b <;> simp only [sub, reduceCtorEq] at h <;> first | (rw [← h]; exact hv) | trivial
  | .u, b, v, h, hv => by cases b <;> simp only [sub, reduceCtorEq] at h <;> trivial
theorem subs_vrs {C : Cx} : ∀ (as bs : List AV) (vs : List Value), subs as bs → VRs C as vs → VRs C bs vs
  | [], [], vs, _, hv => hv
  | a :: as, b :: bs, vs, h, hv => by
    obtain ⟨v, vs', rfl, h1, h2⟩ := hv
    obtain ⟨h3, h4⟩ : sub a b ∧ subs as bs := by simpa [subs] using h
    exact ⟨v, vs', rfl, sub_vr a b v h3 h1, subs_vrs as bs vs' h4 h2⟩
  | [], b :: bs, vs, h, _ => by simp [subs] at h
  | a :: as, [], vs, h, _ => by simp [subs] at h
end

theorem IC.sub {P : Program} {G : Nat → AV} {f : Nat} {args args0 : List AV} {H : Hp} {v : AV} {H' : Hp} (h : IC P G f args0 H v H') (hs : subs args args0) : IC P G f args H v H' := by
  obtain ⟨h1, h2, h3, h4⟩ := h
  exact ⟨h1, h2, h3, fun C vs hG hg hr ha => h4 C vs hG hg hr (subs_vrs _ _ _ hs ha)⟩

theorem IC.out {P : Program} {G : Nat → AV} {f : Nat} {args : List AV} {H : Hp} {v v' : AV} {H' : Hp} (h : IC P G f args H v H') (hs : Go.Proofs.Ytdacfgclclpooaa.sub v v') (hc : cln v' = true) : IC P G f args H v' H' := by
  obtain ⟨h1, h2, h3, h4⟩ := h
  refine ⟨h1, hc, h3, fun C vs hG hg hr ha => Calls.mono (h4 C vs hG hg hr ha) ?_⟩
  rintro e w' ⟨r, φ', rfl, k1, k2, k3⟩
  exact ⟨r, φ', rfl, sub_vr _ _ _ hs k1, k2, k3⟩

/-! ### calls -/

theorem call_intro {X : Xp} {all : Option (Array Oper)} {os : List SOp} {K : Kt} {fn : Nat} {caps args : List AV} {d : Option Nat} {e : Env} {h : Hp} {acc : Acc} (L : List Nat) {args0 : List AV} {H : Hp} {v0 : AV} {H0 : Hp}
    (hic : IC X.P X.G fn args0 H v0 H0) (hs : subs (rss L true (get h) (args ++ caps)) args0) (hH : rsG L true (get h) = H) (hnd : L.Nodup) (hL : ∀ b ∈ L, b < h.length ∧ get h b ≠ .hole) (hlen : L.length ≤ H0.length)
    (hn : runS X all os (eput e d (un (ids L h H0) v0)) (bk (ids L h H0) h H0) (addR acc (idsAll (args ++ caps) ++ (L ++ L.flatMap fun b => idsB (get h b))) (ids L h H0)) K) :
    CallP X all os K (.fn fn caps) args d e h acc :=
  ⟨fn, caps, L, v0, H0, rfl, by rw [hH]; exact hic.sub hs, hnd, hL, hlen, hn⟩

theorem call_pure {X : Xp} {all : Option (Array Oper)} {os : List SOp} {K : Kt} {fn : Nat} {caps args : List AV} {d : Option Nat} {e : Env} {h : Hp} {acc : Acc} {args0 : List AV} {v0 : AV}
    (hic : IC X.P X.G fn args0 [] v0 []) (hs : subs (rss [] true (get h) (args ++ caps)) args0) (hu : un [] v0 = v0)
    (hn : runS X all os (eput e d v0) h (addR acc (idsAll (args ++ caps)) []) K) : CallP X all os K (.fn fn caps) args d e h acc := by
  refine call_intro [] hic hs rfl (by simp) (by simp) (by simp) ?_
  have h1 : ids [] h [] = [] := by simp [ids]
  have h2 : bk [] h [] = h := rfl
  rw [h1, hu, h2]
  simpa using hn

/-! ### the end of a body -/

mutual
theorem sub_refl : ∀ a : AV, Go.Proofs.Ytdacfgclclpooaa.sub a a
  | .agg cs => by simp only [Go.Proofs.Ytdacfgclclpooaa.sub]; exact subs_refl cs
  | .tup cs => by simp only [Go.Proofs.Ytdacfgclclpooaa.sub]; exact subs_refl cs
  | .fz t n cs => by simp [Go.Proofs.Ytdacfgclclpooaa.sub]
  | .rp t cs off => by simp [Go.Proofs.Ytdacfgclclpooaa.sub]
  | .b _ => by simp only [Go.Proofs.Ytdacfgclclpooaa.sub]
  | .i _ _ => by simp only [Go.Proofs.Ytdacfgclclpooaa.sub]
  | .s _ => by simp only [Go.Proofs.Ytdacfgclclpooaa.sub]
  | .sl .. => by simp only [Go.Proofs.Ytdacfgclclpooaa.sub]
  | .p .. => by simp only [Go.Proofs.Ytdacfgclclpooaa.sub]
  | .mp _ => by simp only [Go.Proofs.Ytdacfgclclpooaa.sub]
  | .fn .. => by simp only [Go.Proofs.Ytdacfgclclpooaa.sub]
  | .nilS => by simp only [Go.Proofs.Ytdacfgclclpooaa.sub]
  | .nilP => by simp only [Go.Proofs.Ytdacfgclclpooaa.sub]
  | .err _ => by simp only [Go.Proofs.Ytdacfgclclpooaa.sub]
  | .u => by simp only [Go.Proofs.Ytdacfgclclpooaa.sub]
theorem subs_refl : ∀ as : List AV, subs as as
  | [] => by simp only [subs]
  | a :: as => by simp only [subs]; exact ⟨sub_refl a, subs_refl as⟩
end

end Go.Proofs.Ytdacfgclclpooaa
