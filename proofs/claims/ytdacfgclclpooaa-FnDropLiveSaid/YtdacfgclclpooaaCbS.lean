/- The abstract walk tells the truth where the model draws the order of a region, 3. Conditions: drawOK. -/
import Derived.Test.YtdacfgclclpooaaCbR
import Derived.Orders
namespace Go.Proofs.Ytdacfgclclpooaa
open Go Go.RowKit
set_option linter.unusedVariables false
set_option linter.unusedSimpArgs false
set_option linter.unusedSectionVars false

theorem waits_at : ∀ (os : List Oper) (acc : List (List Nat)), (waitsFrom acc os).take acc.length = acc ∧
    ∀ k o, os[k]? = some o → (waitsFrom acc os).getD (acc.length + k) [] = waits1 ((waitsFrom acc os).take (acc.length + k)) o
  | [], acc => ⟨by simp [waitsFrom], fun k o h => by simp at h⟩
  | o :: os, acc => by
    obtain ⟨h1, h2⟩ := waits_at os (acc ++ [waits1 acc o])
    simp only [List.length_append, List.length_singleton] at h1 h2
    have ht : (waitsFrom (acc ++ [waits1 acc o]) os).take acc.length = acc := by
      have := congrArg (List.take acc.length) h1
      simpa [List.take_take] using this
    refine ⟨ht, fun k o' ho' => ?_⟩
    rw [waitsFrom]
    cases k with
    | zero =>
      simp at ho'
      subst ho'
      rw [Nat.add_zero, ht]
      have := congrArg (fun l : List (List Nat) => l.getD acc.length []) h1
      simpa [List.getD_eq_getElem?_getD, List.getElem?_take] using this
    | succ k =>
      have := h2 k o' (by simpa using ho')
      rwa [show acc.length + 1 + k = acc.length + (k + 1) by omega] at this

section
variable {all : Array Oper} {l : List (List Nat × List Nat)}

theorem waits_mem (hd : drawOK all l = true) {i : Nat} {o : Oper} (hi : all[i]? = some o) : (∀ e ∈ o.after, Region.binds .any e = true → e.on < i) ∧
    ∀ j, j ∈ (waitsFrom [] all.toList).getD i [] ↔ ∃ e ∈ o.after, Region.binds .any e = true ∧ (j = e.on ∨ j ∈ (waitsFrom [] all.toList).getD e.on []) := by
  have hlt : i < all.size := by
    rcases Nat.lt_or_ge i all.size with h | h
    · exact h
    · rw [Array.getElem?_eq_none h] at hi; cases hi
  have h1 : ∀ e ∈ o.after, Region.binds .any e = true → e.on < i := by
    unfold drawOK at hd
    rw [Bool.and_eq_true] at hd
    have := List.all_eq_true.1 hd.1 i (List.mem_range.2 hlt)
    simp only [hi] at this
    intro e he hb
    have := List.all_eq_true.1 this e (by simpa using he)
    simpa [hb] using this
  refine ⟨h1, fun j => ?_⟩
  have h2 := (waits_at all.toList []).2 i o (by simpa using hi)
  simp only [List.length_nil, Nat.zero_add] at h2
  rw [h2]
  unfold waits1
  rw [List.mem_flatMap]
  constructor
  · rintro ⟨e, he, hj⟩
    split at hj
    · rename_i hb
      refine ⟨e, by simpa using he, hb, ?_⟩
      rcases List.mem_cons.1 hj with h | h
      · exact .inl h
      · right
        have hlt' := h1 e (by simpa using he) hb
        simpa [List.getD_eq_getElem?_getD, List.getElem?_take, hlt'] using h
    · simp at hj
  · rintro ⟨e, he, hb, hj⟩
    refine ⟨e, by simpa using he, ?_⟩
    rw [if_pos hb, List.mem_cons]
    rcases hj with h | h
    · exact .inl h
    · right
      have hlt' := h1 e (by simpa using he) hb
      simpa [List.getD_eq_getElem?_getD, List.getElem?_take, hlt'] using h

theorem waits_lt (hd : drawOK all l = true) : ∀ (i : Nat) {o : Oper} (hi : all[i]? = some o) (j : Nat), j ∈ (waitsFrom [] all.toList).getD i [] → j < i := by
  intro i
  induction i using Nat.strongRecOn with
  | _ i ih =>
    intro o hi j hj
    obtain ⟨h1, h2⟩ := waits_mem hd hi
    obtain ⟨e, he, hb, hj⟩ := (h2 j).1 hj
    have := h1 e he hb
    rcases hj with rfl | hj
    · exact this
    · have hlt : i < all.size := by
        rcases Nat.lt_or_ge i all.size with h | h
        · exact h
        · rw [Array.getElem?_eq_none h] at hi; cases hi
      have := ih e.on this (o := all[e.on]'(by omega)) (by simp) j hj
      omega

theorem apart_of (hd : drawOK all l = true) {i j : Nat} (hi : i < all.size) (hj : j < all.size) (hne : i ≠ j) (h1 : j ∉ (waitsFrom [] all.toList).getD i []) (h2 : i ∉ (waitsFrom [] all.toList).getD j []) : apartOK all l i j = true := by
  unfold drawOK at hd
  rw [Bool.and_eq_true] at hd
  have := List.all_eq_true.1 (List.all_eq_true.1 hd.2 i (List.mem_range.2 hi)) j (List.mem_range.2 hj)
  simp only [List.contains_eq_mem, decide_eq_false h1, decide_eq_false h2, Bool.or_false, Bool.or_eq_true, beq_iff_eq] at this
  exact this.resolve_left hne

end

theorem gS_hole {S : Nat → Bool} : ∀ (fs : List Eff) (k : Nat) (g : Nat → Blk), (∃ n, ∀ b, n ≤ b → g b = .hole) → ∃ n, ∀ b, n ≤ b → gS S k fs g b = .hole
  | [], k, g, h => h
  | f :: fs, k, g, h => by
    rw [gS]
    refine gS_hole fs (k + 1) _ ?_
    split
    · generalize f.up = up
      induction up generalizing g with
      | nil => exact h
      | cons p r ih =>
        obtain ⟨b, x⟩ := p
        rw [updL]
        refine ih _ ?_
        obtain ⟨n, hn⟩ := h
        exact ⟨max n (b + 1), fun c hc => by rw [upd1_ne _ _ (by omega)]; exact hn c (by omega)⟩
    · exact h

section
variable {X : Xp} {C0 : Cx} {N : Nat} {all : Array Oper} {fs : List Eff} {e e' : Env} {h h' : Hp}

theorem any_ok (hch : Chain X C0 N all 0 all.toList fs e h e' h') (hd : drawOK all (fs.map fun f => (f.t, f.up.map (·.1))) = true) (Q : Exit → Act → World → Prop) (hQ : ∀ a w, Sta C0 N e' (get h') a w → Q .normal a w) :
    ∀ (fuel : Nat) (listed : Array Bool) (a : Act) (w : World), listed.size = all.size → (List.range all.size).countP (fun j => !listed.getD j false) = fuel →
    (∀ i, listed.getD i false = true → ∀ j ∈ (waitsFrom [] all.toList).getD i [], listed.getD j false = true) →
    Sta C0 N (eS (fun j => listed.getD j false) 0 all.toList fs e) (gS (fun j => listed.getD j false) 0 fs (get h)) a w → wpAny X.P .any all Q fuel listed a w := by
  obtain ⟨c1, c2, c3, c4⟩ := chain_at hch
  simp only [Nat.zero_add] at c4
  have hlf : all.size = fs.length := by simpa using c1
  -- all through
  have done : ∀ (listed : Array Bool) a w, (∀ j, j < all.size → listed.getD j false = true) → Sta C0 N (eS (fun j => listed.getD j false) 0 all.toList fs e) (gS (fun j => listed.getD j false) 0 fs (get h)) a w → Q .normal a w := by
    intro listed a w hall hs
    refine hQ a w (hs.ext (fun t => ?_) (fun b => ?_))
    · rw [c2 t, eS_all (S := fun _ => true) (S' := fun j => listed.getD j false) all.toList fs 0 e (fun j hj => by rw [Nat.zero_add]; exact (hall j (by simpa using hj)).symm)]
    · rw [c3, gS_all (S := fun _ => true) (S' := fun j => listed.getD j false) fs 0 (get h) (fun j hj => by rw [Nat.zero_add]; exact (hall j (by omega)).symm)]
  -- some one is ready
  have some1 : ∀ (listed : Array Bool), listed.size = all.size → Region.ready .any all listed = [] → ∀ j, j < all.size → listed.getD j false = true := by
    intro listed hsz hr j
    induction j using Nat.strongRecOn with
    | _ j ih =>
      intro hj
      cases hl : listed.getD j false with
      | true => rfl
      | false =>
        have hi : all[j]? = some all[j] := by simp [hj]
        have : j ∈ Region.ready .any all listed := by
          unfold Region.ready
          rw [List.mem_filter]
          refine ⟨List.mem_range.2 hj, ?_⟩
          have hl' : listed.getD j true = false := by
            have h1 : j < listed.size := by omega
            simpa [Array.getD, h1] using hl
          rw [hl', hi]
          simp only [Bool.not_false, Bool.true_and, Option.map_some, Option.getD_some, Array.all_eq_true]
          intro k hk
          have he : (all[j]).after[k] ∈ (all[j]).after := by simp
          cases hb : Region.binds .any (all[j]).after[k] with
          | false => rfl
          | true =>
            have := (waits_mem hd hi).1 _ he hb
            simp [ih _ this (by omega)]
        rw [hr] at this
        simp at this
  intro fuel
  induction fuel with
  | zero =>
    intro listed a w hsz hf hcl hs
    have hall : ∀ j, j < all.size → listed.getD j false = true := fun j hj => by
      have := List.countP_eq_zero.1 hf j (List.mem_range.2 hj)
      simpa using this
    refine ⟨?_, done listed a w hall hs⟩
    unfold Region.ready
    rw [List.filter_eq_nil_iff]
    intro j hj
    have hj' := List.mem_range.1 hj
    have := hall j hj'
    have h1 : j < listed.size := by omega
    simp [Array.getD, h1] at this ⊢
    simp [this]
  | succ fuel ih =>
    intro listed a w hsz hf hcl hs
    refine ⟨fun hr => done listed a w (some1 listed hsz hr) hs, fun i hi => ?_⟩
    unfold Region.ready at hi
    rw [List.mem_filter] at hi
    obtain ⟨hi0, hi⟩ := hi
    have hin := List.mem_range.1 hi0
    have hio : all[i]? = some all[i] := by simp [hin]
    rw [hio] at hi
    simp only [Option.map_some, Option.getD_some, Bool.and_eq_true, Bool.not_eq_true', Array.all_eq_true] at hi
    obtain ⟨hl, hed⟩ := hi
    have hfi : fs[i]? = some (fs[i]'(by omega)) := by simp
    have hSi : listed.getD i false = false := by
      have h1 : i < listed.size := by omega
      simpa [Array.getD, h1] using hl
    obtain ⟨ej, hj, k1, k2, k3⟩ := c4 i all[i] _ (by simp [hin]) hfi
    have hB := waits_mem hd hio
    have hBi : ∀ j ∈ (waitsFrom [] all.toList).getD i [], listed.getD j false = true := by
      intro j hj
      obtain ⟨e, he, hb, hj⟩ := (hB.2 j).1 hj
      obtain ⟨k, hk, rfl⟩ := Array.mem_iff_getElem.1 he
      have h1 := hed k hk
      rw [hb] at h1
      have h2 : listed.getD ((all[i]).after[k]).on false = true := by simpa using h1
      rcases hj with rfl | hj
      · exact h2
      · exact hcl _ h2 j hj
    -- who does not wait is apart
    have hapart : ∀ j, j < all.size → listed.getD j false ≠ decide (j < i) → j ≠ i ∧ apartOK all (fs.map fun f => (f.t, f.up.map (·.1))) i j = true := by
      intro j hjn hne
      have hji : j ≠ i := by
        rintro rfl
        rw [hSi] at hne; simp at hne
      refine ⟨hji, apart_of hd hin hjn (fun x => hji x.symm) (fun hx => ?_) (fun hx => ?_)⟩
      · have h1 := hBi j hx
        have h2 := waits_lt hd i hio j hx
        rw [h1] at hne; simp [h2] at hne
      · have h2 := waits_lt hd j (o := all[j]) (by simp [hjn]) i hx
        cases h1 : listed.getD j false with
        | false => rw [h1] at hne; simp at hne; omega
        | true =>
          have := hcl j h1 i hx
          rw [hSi] at this; cases this
    have hl1 : ∀ j : Nat, (fs.map fun f : Eff => (f.t, f.up.map (·.1)))[j]? = (fs[j]?).map fun f : Eff => (f.t, f.up.map (·.1)) := fun j => List.getElem?_map ..
    have hapE : ∀ (j : Nat) o t, all[j]? = some o → o.dst = some t → listed.getD j false ≠ decide (j < i) → t ∉ (all[i]).looksAt all ∧ (all[i]).dst ≠ some t := by
      intro j o t ho hdt hne
      have hjn : j < all.size := by
        rcases Nat.lt_or_ge j all.size with h | h
        · exact h
        · rw [Array.getElem?_eq_none h] at ho; cases ho
      obtain ⟨_, hap⟩ := hapart j hjn hne
      unfold apartOK at hap
      rw [hio, ho, hl1, hl1, hfi, show fs[j]? = some (fs[j]'(by omega)) by simp] at hap
      simp only [Option.map_some, hdt, Bool.and_eq_true, bne_iff_ne, ne_eq, Bool.not_eq_true', List.contains_eq_mem, decide_eq_false_iff_not] at hap
      exact ⟨hap.1.1, hap.1.2⟩
    have hapG : ∀ (j : Nat) f b, fs[j]? = some f → b ∈ f.up.map (·.1) → listed.getD j false ≠ decide (j < i) → b ∉ (fs[i]'(by omega)).t ∧ b ∉ (fs[i]'(by omega)).up.map (·.1) := by
      intro j f b hf hb hne
      have hjn : j < all.size := by
        rw [hlf]
        rcases Nat.lt_or_ge j fs.length with h | h
        · exact h
        · rw [List.getElem?_eq_none h] at hf; cases hf
      obtain ⟨_, hap⟩ := hapart j hjn hne
      unfold apartOK at hap
      rw [hio, show all[j]? = some all[j] by simp [hjn], hl1, hl1, hfi, hf] at hap
      simp only [Option.map_some, Bool.and_eq_true] at hap
      have := List.all_eq_true.1 hap.2 b hb
      simpa using this
    refine k1 _ _ (fun t ht => ?_) (fun b hb => ?_) (gS_hole fs 0 (get h) ⟨h.length, fun b hb => get_ge hb⟩) a w hs _ _ (fun a' w' hs' => ?_)
    · rw [k2 t]
      refine eS_same all.toList fs 0 e e rfl (fun j o ho hdt => ?_)
      rw [Nat.zero_add]
      refine Classical.byContradiction fun hne => (hapE j o t (by simpa using ho) hdt hne).1 ht
    · rw [k3]
      refine gS_same fs 0 (get h) (get h) rfl (fun j f hf' hb' => ?_)
      rw [Nat.zero_add]
      refine Classical.byContradiction fun hne => ?_
      have := hapG j f b hf' hb' hne
      exact hb.elim this.1 this.2
    · have hgd : ∀ j, (listed.setIfInBounds i true).getD j false = (listed.getD j false || j == i) := fun j => by
        rw [Array.getD_eq_getD_getElem?, Array.getD_eq_getD_getElem?]
        by_cases hji : j = i
        · subst hji
          have h1 : j < listed.size := by omega
          simp [h1]
        · rw [Array.getElem?_setIfInBounds_ne (fun x => hji x.symm)]
          simp [hji]
      have hgd' : (fun j => (listed.setIfInBounds i true).getD j false) = fun j => (listed.getD j false || j == i) := funext hgd
      refine ih _ _ _ (by simp [hsz]) ?_ ?_ ?_
      · -- one less
        have h1 : ∀ (n : Nat), i < n → (List.range n).countP (fun j => !listed.getD j false) = (List.range n).countP (fun j => !(listed.setIfInBounds i true).getD j false) + 1 := by
          intro n
          induction n with
          | zero => intro h; omega
          | succ n ihn =>
            intro hn
            rw [List.range_succ, List.countP_append, List.countP_append]
            by_cases hin : i < n
            · rw [ihn hin]
              have h2 : (List.countP (fun j => !listed.getD j false) [n]) = List.countP (fun j => !(listed.setIfInBounds i true).getD j false) [n] := by
                rw [List.countP_singleton, List.countP_singleton, hgd n]
                have : (n == i) = false := by simp; omega
                rw [this, Bool.or_false]
              rw [h2]; omega
            · obtain rfl : n = i := by omega
              have h2 : (List.range n).countP (fun j => !listed.getD j false) = (List.range n).countP (fun j => !(listed.setIfInBounds n true).getD j false) := by
                apply List.countP_congr
                intro j hj
                have := List.mem_range.1 hj
                rw [hgd j]
                have : (j == n) = false := by simp; omega
                rw [this, Bool.or_false]
              rw [h2, List.countP_singleton, List.countP_singleton, hgd n, hSi]
              simp
        have := h1 all.size hin
        omega
      · intro k hk j hj
        rw [hgd] at hk ⊢
        rcases Bool.or_eq_true _ _ ▸ hk with h1 | h1
        · rw [hcl k h1 j hj]; rfl
        · have : k = i := by simpa using h1
          subst this
          rw [hBi j hj]; rfl
      · rw [hgd']
        have hlast : ∀ (j : Nat), listed.getD j false = true → ¬ j < i → listed.getD j false ≠ decide (j < i) := fun j h1 h2 h3 => by rw [h1] at h3; simp [h2] at h3
        refine hs'.ext (fun t => ?_) (fun b => ?_)
        · exact (eS_last (S := fun j => listed.getD j false) (i := i) hSi all.toList fs 0 e (Nat.zero_le _) (by simp) (by simp) (fun j o t ho hdt hdi hSj => by
            rw [Nat.zero_add] at hSj ⊢
            rcases Nat.lt_or_ge j i with h1 | h1
            · exact h1
            · exact absurd hdi (hapE j o t (by simpa using ho) hdt (hlast j hSj (by omega))).2) t).symm
        · exact (gS_last (S := fun j => listed.getD j false) (i := i) hSi fs 0 (get h) (Nat.zero_le _) (by simp) (fun j f b hf' hb hbi hSj => by
            rw [Nat.zero_add] at hSj ⊢
            rcases Nat.lt_or_ge j i with h1 | h1
            · exact h1
            · exact absurd hbi (hapG j f b hf' hb (hlast j hSj (by omega))).2) b).symm

end

theorem Sta.drew {C0 : Cx} {N : Nat} {e : Env} {g : Nat → Blk} {a : Act} {w : World} (h : Sta C0 N e g a w) : Sta C0 N e g a w.drew := by
  obtain ⟨φ, h⟩ := h
  obtain ⟨h1, h2⟩ := drew_ok (C := ⟨φ, g, C0.Bo, C0.G, w⟩) h.hr
  exact ⟨φ, h2, h.le.trans h1, fun t => h1.vr _ _ (h.env t), h.size, h.defers⟩

theorem runD_ok {X : Xp} (hT : TOk X.P X.T) {C0 : Cx} (hG : C0.G = X.G) (hm : X.P.follows .mixedOrders = true) {N : Nat} {all : Array Oper} (id : Nat) (Q : Exit → Act → World → Prop) (K : Kt) (hQ : ∀ e h a w, Sta C0 N e (get h) a w → K .norm e h → Q .normal a w)
    {e : Env} {h : Hp} {a : Act} {w : World} (hd : ∀ o ∈ all, ∀ d, o.dst = some d → d < N)
    (hr : runS X (some all) (sOps all all.toList) e h (some []) K) (hs : Sta C0 N e (get h) a w) : (Code.region id all true).wp X.P Q a w := by
  obtain ⟨fs, e', h', hch, hdr, hK⟩ := chain_of hT hG K all.toList 0 e h [] (by simp) (fun o ho => hd o (by simpa using ho)) hr
  refine wp_region_any hm (any_ok hch (by simpa using hdr) Q (fun a w hs => hQ _ _ _ _ hs hK) all.size _ a _ (by simp) ?_ ?_ ?_)
  · have : ∀ n, (List.range n).countP (fun j => !(Array.replicate all.size false).getD j false) = n := fun n => by
      rw [List.countP_eq_length.2]
      · simp
      · intro j _
        simp [Array.getD_eq_getD_getElem?, Array.getElem?_replicate]
        split <;> rfl
    exact this _
  · intro i hi
    simp [Array.getD_eq_getD_getElem?, Array.getElem?_replicate] at hi
    split at hi <;> cases hi
  · have : (fun j => (Array.replicate all.size false).getD j false) = fun _ => false := by
      funext j
      simp [Array.getD_eq_getD_getElem?, Array.getElem?_replicate]
      split <;> rfl
    rw [this, eS_none, gS_none]
    exact hs.drew

end Go.Proofs.Ytdacfgclclpooaa
