/- The abstract values of a generic layer over the model's walks: frozen data, the call's own blocks, and what of the world stands behind them. Conditions: none; plain definitions and lemmas. -/
import Derived.Orders
import Derived.Below
import Derived.KernelRfl
namespace Go.Proofs.Ytdacfgclclpooaa
open Go Go.RowKit

/-- Abstract values. fz: a slice that nobody writes any more; rp: a pointer into such cells; sl, p, mp: into the call's own blocks. -/
inductive AV where
  | b (x : Bool) | i (k : IntKind) (n : Int) | s (l : List UInt8)
  | fz (t : Bool) (n : Nat) (cs : List AV)
  | rp (t : Bool) (cs : List AV) (off : Nat)
  | sl (b off n cap : Nat)
  | p (b off len : Nat)
  | mp (b : Nat)
  | nilS | nilP
  | agg (cs : List AV) | tup (cs : List AV)
  | fn (f : Nat) (cs : List AV)
  | err (isNil : Bool)
  | u
  deriving Inhabited

inductive Blk where
  | hole | dead
  | cells (sz : Nat) (cs : List AV)
  | map (es : List (List UInt8 × Bool))
  deriving Inhabited

abbrev Hp := List Blk
def get (h : Hp) (b : Nat) : Blk := h.getD b .hole

mutual
/-- Data in memory: no block of the call's own in it. -/
def VD (ok : Bool → Nat → Prop) (w : World) : AV → Value → Prop
  | .b x, v => v = .bool x
  | .i k n, v => v = .int k n
  | .s l, v => v = .string ⟨l.toArray⟩
  | .fz t n cs, v => ∃ a c, v = .slice a n c ∧ n ≤ c ∧ (n = 0 ∨ (0 < cs.length ∧ ∃ blk off, a = some ⟨blk, off, none⟩ ∧ ok t blk ∧ VDm ok w cs blk off))
  | .rp t cs off, v => ∃ blk base, v = .pointer (some ⟨blk, base + off, none⟩) ∧ (cs = [] ∨ (ok t blk ∧ VDm ok w cs blk base))
  | .sl .., _ => False
  | .p .., _ => False
  | .mp .., _ => False
  | .nilS, v => v = .slice none 0 0
  | .nilP, v => v = .pointer none
  | .agg cs, v => ∃ vs, v = .agg vs ∧ VDs ok w cs vs.toList
  | .tup cs, v => ∃ vs, v = .tuple vs ∧ VDs ok w cs vs.toList
  | .fn f cs, v => ∃ vs, v = .func (.func f) #[] vs ∧ VDs ok w cs vs.toList
  | .err x, v => if x then v = .nilIface else ∃ t y, v = .iface t y
  | .u, _ => True
def VDm (ok : Bool → Nat → Prop) (w : World) : List AV → Nat → Nat → Prop
  | [], _, _ => True
  | x :: xs, blk, off => (∃ v, w.cell? ⟨blk, off, none⟩ = some v ∧ VD ok w x v) ∧ VDm ok w xs blk (off + 1)
def VDs (ok : Bool → Nat → Prop) (w : World) : List AV → List Value → Prop
  | [], vs => vs = []
  | x :: xs, vs => ∃ v vs', vs = v :: vs' ∧ VD ok w x v ∧ VDs ok w xs vs'
end

/-- A context: where the own blocks lie, what they hold, what is lent, the world. -/
structure Cx where
  φ : Nat → Nat
  g : Nat → Blk
  Bo : Nat → Prop
  G : Nat → AV
  w : World

/-- A row of no cells may lie nowhere. -/
def Blk.live : Blk → Bool
  | .cells _ (_ :: _) | .map .. => true
  | _ => false

def Cx.own (C : Cx) (c : Nat) : Prop := ∃ b, (C.g b).live = true ∧ C.φ b = c
def Cx.ok (C : Cx) (t : Bool) (c : Nat) : Prop := ¬ C.own c ∧ (t = false → ¬ C.Bo c)

mutual
def VR (C : Cx) : AV → Value → Prop
  | .sl b off n cap, v => ∃ a c, v = .slice a n c ∧ n ≤ c ∧ n ≤ cap ∧ C.g b ≠ .hole ∧ ∀ sz cs, C.g b = .cells sz cs → off + cap * sz ≤ cs.length ∧
      (off + cap * sz = cs.length → (cs = [] ∧ c = 0) ∨ (cs ≠ [] ∧ ∃ arr el, C.w.heap[C.φ b]? = some (.cells arr el (0, 0)) ∧ ((c = 0 ∧ cap = 0) ∨ (a = some ⟨C.φ b, off, none⟩ ∧ off + c * sz ≤ arr.size ∧ cap ≤ c))))
  | .p b off len, v => ∃ a, v = .pointer (some a) ∧ C.g b ≠ .hole ∧ ∀ sz cs, C.g b = .cells sz cs → len ≤ cs.length ∧ (len = cs.length → a = ⟨C.φ b, off, none⟩)
  | .mp b, v => ∃ r, v = .map (some r) ∧ C.g b ≠ .hole ∧ ∀ es, C.g b = .map es → r = C.φ b
  | .agg cs, v => ∃ vs, v = .agg vs ∧ VRs C cs vs.toList
  | .tup cs, v => ∃ vs, v = .tuple vs ∧ VRs C cs vs.toList
  | .fn f cs, v => ∃ vs, v = .func (.func f) #[] vs ∧ VRs C cs vs.toList
  | .b x, v => VD C.ok C.w (.b x) v
  | .i k n, v => VD C.ok C.w (.i k n) v
  | .s l, v => VD C.ok C.w (.s l) v
  | .fz t n cs, v => VD C.ok C.w (.fz t n cs) v
  | .rp t cs off, v => VD C.ok C.w (.rp t cs off) v
  | .nilS, v => VD C.ok C.w .nilS v
  | .nilP, v => VD C.ok C.w .nilP v
  | .err x, v => VD C.ok C.w (.err x) v
  | .u, _ => True
def VRs (C : Cx) : List AV → List Value → Prop
  | [], vs => vs = []
  | x :: xs, vs => ∃ v vs', vs = v :: vs' ∧ VR C x v ∧ VRs C xs vs'
end

/-- What block number b of the own ones stands for. -/
def BlkR (C : Cx) (b : Nat) : Blk → Prop
  | .hole => True
  | .dead => True
  | .cells _ cs => cs = [] ∨ (C.φ b < C.w.heap.size ∧ ¬ C.Bo (C.φ b) ∧ ∃ arr el, C.w.heap[C.φ b]? = some (.cells arr el (0, 0)) ∧ cs.length ≤ arr.size ∧
      ∀ (i : Nat) x, cs[i]? = some x → ∃ v, arr[i]? = some v ∧ VR C x v)
  | .map es => C.φ b < C.w.heap.size ∧ ¬ C.Bo (C.φ b) ∧ ∃ ens clock, C.w.heap[C.φ b]? = some (.map ens clock) ∧
      ens.toList.map (fun e => (e.key, e.val)) = es.map (fun e => (Value.string ⟨e.1.toArray⟩, Value.bool e.2))

structure HR (C : Cx) : Prop where
  blk : ∀ b, BlkR C b (C.g b)
  inj : ∀ b b', (C.g b).live = true → (C.g b').live = true → C.φ b = C.φ b' → b = b'
  bo : ∀ c, C.Bo c → c < C.w.heap.size
  gl : ∀ i, VD C.ok C.w (C.G i) (.pointer (some ⟨i, 0, none⟩))

theorem vdm_iff {ok w} : ∀ (cs : List AV) (blk off : Nat), VDm ok w cs blk off ↔ ∀ (i : Nat) x, cs[i]? = some x → ∃ v, w.cell? ⟨blk, off + i, none⟩ = some v ∧ VD ok w x v
  | [], blk, off => by simp [VDm]
  | c :: cs, blk, off => by
    rw [VDm, vdm_iff cs blk (off + 1)]
    constructor
    · rintro ⟨h0, h⟩ i x hx
      cases i with
      | zero => simp at hx; subst hx; simpa using h0
      | succ i =>
        simp at hx
        obtain ⟨v, h1, h2⟩ := h i x hx
        exact ⟨v, by rw [← h1]; congr 2; omega, h2⟩
    · intro h
      refine ⟨by simpa using h 0 c (by simp), fun i x hx => ?_⟩
      obtain ⟨v, h1, h2⟩ := h (i + 1) x (by simpa using hx)
      exact ⟨v, by rw [← h1]; congr 2; omega, h2⟩

theorem vrs_iff {C} : ∀ (cs : List AV) (vs : List Value), VRs C cs vs ↔ cs.length = vs.length ∧ ∀ (i : Nat) x, cs[i]? = some x → ∃ v, vs[i]? = some v ∧ VR C x v
  | [], vs => by cases vs <;> simp [VRs]
  | c :: cs, [] => by simp [VRs]
  | c :: cs, v :: vs => by
    rw [VRs]
    constructor
    · rintro ⟨v', vs', h, hv, hs⟩
      cases h
      obtain ⟨hl, h⟩ := (vrs_iff cs vs).1 hs
      refine ⟨by simp [hl], fun i x hx => ?_⟩
      cases i with
      | zero => simp at hx; subst hx; exact ⟨v, by simp, hv⟩
      | succ i => simpa using h i x (by simpa using hx)
    · rintro ⟨hl, h⟩
      refine ⟨v, vs, rfl, by simpa using h 0 c (by simp), (vrs_iff cs vs).2 ⟨by simpa using hl, fun i x hx => ?_⟩⟩
      simpa using h (i + 1) x (by simpa using hx)

theorem vds_iff {ok w} : ∀ (cs : List AV) (vs : List Value), VDs ok w cs vs ↔ cs.length = vs.length ∧ ∀ (i : Nat) x, cs[i]? = some x → ∃ v, vs[i]? = some v ∧ VD ok w x v
  | [], vs => by cases vs <;> simp [VDs]
  | c :: cs, [] => by simp [VDs]
  | c :: cs, v :: vs => by
    rw [VDs]
    constructor
    · rintro ⟨v', vs', h, hv, hs⟩
      cases h
      obtain ⟨hl, h⟩ := (vds_iff cs vs).1 hs
      refine ⟨by simp [hl], fun i x hx => ?_⟩
      cases i with
      | zero => simp at hx; subst hx; exact ⟨v, by simp, hv⟩
      | succ i => simpa using h i x (by simpa using hx)
    · rintro ⟨hl, h⟩
      refine ⟨v, vs, rfl, by simpa using h 0 c (by simp), (vds_iff cs vs).2 ⟨by simpa using hl, fun i x hx => ?_⟩⟩
      simpa using h (i + 1) x (by simpa using hx)

theorem lt_of_cell {w : World} {blk off : Nat} {v : Value} (h : w.cell? ⟨blk, off, none⟩ = some v) : blk < w.heap.size := by
  rcases Nat.lt_or_ge blk w.heap.size with h' | h'
  · exact h'
  · simp [World.cell?, Array.getElem?_eq_none h'] at h

/-! ### data go from one world to a later one -/

mutual
theorem VD.mono {ok ok' : Bool → Nat → Prop} {w w' : World} (hok : ∀ t c, c < w.heap.size → ok t c → ok' t c) (hw : ∀ t c, c < w.heap.size → ok t c → w'.heap[c]? = w.heap[c]?) :
    ∀ (a : AV) (v : Value), VD ok w a v → VD ok' w' a v
  | .b x, v, h => h
  | .i k n, v, h => h
  | .s l, v, h => h
  | .fz t n cs, v, h => by
    obtain ⟨a, c, rfl, hn, h⟩ := h
    refine ⟨a, c, rfl, hn, ?_⟩
    rcases h with rfl | ⟨hl, blk, off, rfl, ho, hm⟩
    · exact .inl rfl
    · cases cs with
      | nil => simp at hl
      | cons x xs =>
        have hb : blk < w.heap.size := by obtain ⟨⟨v, hv, _⟩, _⟩ := hm; exact lt_of_cell hv
        exact .inr ⟨hl, blk, off, rfl, hok _ _ hb ho, VDm.mono hok hw (x :: xs) blk off hb (hw _ _ hb ho) hm⟩
  | .rp t cs off, v, h => by
    obtain ⟨blk, base, rfl, h⟩ := h
    refine ⟨blk, base, rfl, ?_⟩
    rcases h with rfl | ⟨ho, hm⟩
    · exact .inl rfl
    · cases cs with
      | nil => exact .inl rfl
      | cons x xs =>
        have hb : blk < w.heap.size := by obtain ⟨⟨v, hv, _⟩, _⟩ := hm; exact lt_of_cell hv
        exact .inr ⟨hok _ _ hb ho, VDm.mono hok hw (x :: xs) blk base hb (hw _ _ hb ho) hm⟩
  | .sl .., v, h => h.elim
  | .p .., v, h => h.elim
  | .mp .., v, h => h.elim
  | .nilS, v, h => h
  | .nilP, v, h => h
  | .agg cs, v, h => by
    obtain ⟨vs, rfl, h⟩ := h
    exact ⟨vs, rfl, VDs.mono hok hw cs _ h⟩
  | .tup cs, v, h => by
    obtain ⟨vs, rfl, h⟩ := h
    exact ⟨vs, rfl, VDs.mono hok hw cs _ h⟩
  | .fn f cs, v, h => by
    obtain ⟨vs, rfl, h⟩ := h
    exact ⟨vs, rfl, VDs.mono hok hw cs _ h⟩
  | .err x, v, h => h
  | .u, v, h => trivial
theorem VDm.mono {ok ok' : Bool → Nat → Prop} {w w' : World} (hok : ∀ t c, c < w.heap.size → ok t c → ok' t c) (hw : ∀ t c, c < w.heap.size → ok t c → w'.heap[c]? = w.heap[c]?) :
    ∀ (cs : List AV) (blk off : Nat), blk < w.heap.size → w'.heap[blk]? = w.heap[blk]? → VDm ok w cs blk off → VDm ok' w' cs blk off
  | [], blk, off, _, _, h => trivial
  | x :: xs, blk, off, hb, he, h => by
    obtain ⟨⟨v, hv, hx⟩, h⟩ := h
    exact ⟨⟨v, by rw [← hv]; exact World.cell?_of_block (w := w) he, VD.mono hok hw x v hx⟩, VDm.mono hok hw xs blk (off + 1) hb he h⟩
theorem VDs.mono {ok ok' : Bool → Nat → Prop} {w w' : World} (hok : ∀ t c, c < w.heap.size → ok t c → ok' t c) (hw : ∀ t c, c < w.heap.size → ok t c → w'.heap[c]? = w.heap[c]?) :
    ∀ (cs : List AV) (vs : List Value), VDs ok w cs vs → VDs ok' w' cs vs
  | [], vs, h => h
  | x :: xs, vs, h => by
    obtain ⟨v, vs', rfl, hx, h⟩ := h
    exact ⟨v, vs', rfl, VD.mono hok hw x v hx, VDs.mono hok hw xs vs' h⟩
end

end Go.Proofs.Ytdacfgclclpooaa
