/- The abstract operations: what one operation of the model does to abstract values. Conditions: none; definitions. -/
import Derived.Test.YtdacfgclclpooaaCbD
namespace Go.Proofs.Ytdacfgclclpooaa
open Go Go.RowKit
set_option linter.unusedVariables false

inductive TD where
  | scal | bool | iface | ptr | str | int (k : IntKind) | slice (e : Nat) | struct (fs : List (Nat × Nat)) | arr (n e : Nat) | map (k e : Nat)

structure TI where
  size : Nat
  bytes : Nat
  agg : Bool
  zero : AV
  d : TD

def ofV1 : Value → AV
  | .bool b => .b b
  | .int k n => .i k n
  | .string s => .s s.data.toList
  | .slice none 0 0 => .nilS
  | .pointer none => .nilP
  | .nilIface => .err true
  | _ => .u
def ofV : Value → AV
  | .agg cs => .agg (cs.toList.map ofV1)
  | .bool b => .b b
  | .int k n => .i k n
  | .string s => .s s.data.toList
  | .slice none 0 0 => .nilS
  | .pointer none => .nilP
  | .nilIface => .err true
  | .tuple vs => if vs.size = 0 then .tup [] else .u
  | _ => .u

def tdb : TypeDesc → TD → Bool
  | .slice e, .slice e' => e == e'
  | .struct fs, .struct l => fs.toList.map (fun f => (f.offset, f.type)) == l
  | .array n e, .arr n' e' => n == n' && e == e'
  | .string, .str => true
  | .bool, .bool => true
  | .pointer _, .ptr => true
  | .interface _, .iface => true
  | .int k, .int k' => k == k'
  | .map k e, .map k' e' => k == k' && e == e'
  | _, .scal => true
  | _, _ => false

def aggD : TypeDesc → Bool
  | .struct _ => true
  | .array _ _ => true
  | _ => false

structure TIok (P : Program) (t : Nat) (ti : TI) : Prop where
  info : ∃ inf, P.info? t = some inf ∧ inf.size = ti.size ∧ inf.bytes = ti.bytes ∧ ∃ z, inf.zero = some z ∧ ofV z = ti.zero
  und : ∃ d, P.underlying t = some d ∧ tdb d ti.d = true ∧ aggD d = ti.agg

mutual
def avEq : AV → AV → Bool
  | .b x, .b y => x == y
  | .i k n, .i k' n' => decide (k = k') && decide (n = n')
  | .s l, .s l' => l == l'
  | .nilS, .nilS => true
  | .nilP, .nilP => true
  | .err x, .err y => x == y
  | .u, .u => true
  | .agg cs, .agg cs' => avEqs cs cs'
  | _, _ => false
def avEqs : List AV → List AV → Bool
  | [], [] => true
  | a :: as, b :: bs => avEq a b && avEqs as bs
  | _, _ => false
end
mutual
theorem avEq_ok : ∀ {a b : AV}, avEq a b = true → a = b
  | .b x, b, h => by cases b <;> simp [avEq] at h; rw [h]
  | .i k n, b, h => by cases b <;> simp [avEq] at h; rw [h.1, h.2]
  | .s l, b, h => by cases b <;> simp [avEq] at h; rw [h]
  | .nilS, b, h => by cases b <;> simp [avEq] at h; rfl
  | .nilP, b, h => by cases b <;> simp [avEq] at h; rfl
  | .err x, b, h => by cases b <;> simp [avEq] at h; rw [h]
  | .u, b, h => by cases b <;> simp [avEq] at h; rfl
  | .agg cs, b, h => by cases b <;> simp [avEq] at h; rw [avEqs_ok h]
  | .fz .., b, h => by cases b <;> simp [avEq] at h
  | .rp .., b, h => by cases b <;> simp [avEq] at h
  | .sl .., b, h => by cases b <;> simp [avEq] at h
  | .p .., b, h => by cases b <;> simp [avEq] at h
  | .mp .., b, h => by cases b <;> simp [avEq] at h
  | .tup .., b, h => by cases b <;> simp [avEq] at h
  | .fn .., b, h => by cases b <;> simp [avEq] at h
theorem avEqs_ok : ∀ {as bs : List AV}, avEqs as bs = true → as = bs
  | [], bs, h => by cases bs <;> simp [avEqs] at h; rfl
  | a :: as, bs, h => by
    cases bs with
    | nil => simp [avEqs] at h
    | cons b bs => simp [avEqs] at h; rw [avEq_ok h.1, avEqs_ok h.2]
end

def tiChk (P : Program) (t : Nat) (ti : TI) : Bool :=
  match P.info? t, P.underlying t with
  | some inf, some d => inf.size == ti.size && inf.bytes == ti.bytes && (match inf.zero with | some z => avEq (ofV z) ti.zero | none => false) && tdb d ti.d && (aggD d == ti.agg)
  | _, _ => false

theorem tiChk_ok {P : Program} {t : Nat} {ti : TI} (h : tiChk P t ti = true) : TIok P t ti := by
  unfold tiChk at h
  split at h
  · rename_i inf d hi hu
    simp only [Bool.and_eq_true, beq_iff_eq] at h
    obtain ⟨⟨⟨⟨h1, h2⟩, h3⟩, h4⟩, h5⟩ := h
    split at h3
    · rename_i z hz
      exact ⟨⟨inf, hi, h1, h2, z, hz, avEq_ok h3⟩, d, hu, h4, h5⟩
    · cases h3
  · cases h

abbrev TT := Nat → Option TI
def TOk (P : Program) (T : TT) : Prop := ∀ t ti, T t = some ti → TIok P t ti

abbrev Res := Option (Prop × AV × List (Nat × Blk))
def pureR (v : AV) : Res := some (True, v, [])

def AV.cells? : AV → Option (List AV)
  | .agg cs => some cs
  | .tup _ => none
  | .u => none
  | a => some [a]
def AV.scal : AV → Bool
  | .agg _ => false
  | .tup _ => false
  | .u => false
  | _ => true

def setMany : List AV → Nat → List AV → List AV
  | cs, _, [] => cs
  | cs, o, x :: xs => setMany (cs.set o x) (o + 1) xs

def rdAt (g : Nat → Blk) : AV → Option (Prop × List AV × Nat)
  | .p b off len => match g b with
    | .cells _ cs => some (len = cs.length, cs, off)
    | _ => none
  | .rp _ cs off => some (True, cs, off)
  | _ => none

def aLoad (T : TT) (g : Nat → Blk) (t : Nat) (a : AV) : Res :=
  match T t, rdAt g a with
  | some ti, some (c, cs, off) =>
    if ti.agg then some (c ∧ off + ti.size ≤ cs.length, .agg ((cs.drop off).take ti.size), [])
    else some (c ∧ off < cs.length, cs.getD off ti.zero, [])
  | _, _ => none

def aStore (T : TT) (g : Nat → Blk) (t : Nat) (a x : AV) : Res :=
  match T t, a, x.cells? with
  | some ti, .p b off len, some xs => match g b with
    | .cells sz cs => if xs.length = ti.size ∧ xs.all AV.scal = true then some (len = cs.length ∧ off + ti.size ≤ cs.length, .tup [], [(b, .cells sz (setMany cs off xs))]) else none
    | _ => none
  | _, _, _ => none

def fieldOf (T : TT) (s f : Nat) : Option (Nat × TI) :=
  match T s with
  | some ⟨_, _, _, _, .struct fs⟩ => match fs[f]? with
    | some (off, ft) => match T ft with
      | some fi => some (off, fi)
      | none => none
    | none => none
  | _ => none

def aFieldAddr (T : TT) (s : Nat) (a : AV) (f : Nat) : Res :=
  match fieldOf T s f with
  | some (fo, fi) => if fi.size = 0 then none else match a with
    | .p b off len => pureR (.p b (off + fo) len)
    | .rp t cs off => pureR (.rp t cs (off + fo))
    | _ => none
  | none => none

def aField (T : TT) (s : Nat) (a : AV) (f : Nat) : Res :=
  match fieldOf T s f, a with
  | some (fo, fi), .agg cs => if fi.agg then some (True, .agg ((cs.drop fo).take fi.size), []) else some (fo < cs.length, cs.getD fo fi.zero, [])
  | _, _ => none

def aIndexAddr (T : TT) (g : Nat → Blk) (t : Nat) (a ix : AV) : Res :=
  match ix, T t with
  | .i _ j, some ⟨_, _, _, _, .slice e⟩ => match T e with
    | some ei => match a with
      | .sl b off n cap => match g b with
        | .cells sz cs => if sz = ei.size then some (off + cap * sz = cs.length ∧ 0 ≤ j ∧ j < n, .p b (off + j.toNat * sz) (off + cap * sz), []) else none
        | _ => none
      | .fz tg n cs => some (0 ≤ j ∧ j < n, .rp tg cs (j.toNat * ei.size), [])
      | _ => none
    | none => none
  | .i _ j, some ⟨_, _, _, _, .arr n e⟩ => match T e with
    | some ei => match a with
      | .p b off len => some (0 ≤ j ∧ j < n, .p b (off + j.toNat * ei.size) len, [])
      | .rp tg cs off => some (0 ≤ j ∧ j < n, .rp tg cs (off + j.toNat * ei.size), [])
      | _ => none
    | none => none
  | _, _ => none

def aIndex (T : TT) (t : Nat) (a ix : AV) : Res :=
  match ix, T t with
  | .i _ j, some ⟨_, _, _, _, .str⟩ => match a with
    | .s l => some (0 ≤ j ∧ j < l.length, .i .u8 (l.getD j.toNat 0).toNat, [])
    | _ => none
  | .i _ j, some ⟨_, _, _, _, .arr n e⟩ => match T e with
    | some ei => match a with
      | .agg cs => if ei.agg then none else some (0 ≤ j ∧ j < n ∧ j.toNat * ei.size < cs.length, cs.getD (j.toNat * ei.size) ei.zero, [])
      | _ => none
    | none => none
  | _, _ => none

/-- The bounds of a slice expression: what they ask, low, high. -/
def bnds (n : Nat) (lo hi : Option AV) : Option (Prop × Nat × Nat) :=
  match lo, hi with
  | none, none => some (True, 0, n)
  | some (.i _ l), none => some (0 ≤ l ∧ l ≤ n, l.toNat, n)
  | none, some (.i _ h) => some (0 ≤ h ∧ h ≤ n, 0, h.toNat)
  | some (.i _ l), some (.i _ h) => some (0 ≤ h ∧ h ≤ n ∧ 0 ≤ l ∧ l ≤ h.toNat, l.toNat, h.toNat)
  | _, _ => none

def aSlice (T : TT) (g : Nat → Blk) (t : Nat) (a : AV) (lo hi mx : Option AV) : Res :=
  match mx, T t with
  | none, some ⟨_, _, _, _, .str⟩ => match a with
    | .s l => match bnds l.length lo hi with
      | some (c, x, y) => some (c, .s ((l.take y).drop x), [])
      | none => none
    | _ => none
  | some (.i _ mv), some ⟨_, _, _, _, .slice e⟩ => match T e, lo, hi with
    | some ei, none, some (.i _ hv) => match a with
      | .fz tg n cs => some (hv = n ∧ mv = n, .fz tg n cs, [])
      | .nilS => some (hv = 0 ∧ mv = 0, .nilS, [])
      | .sl b off n cap => match g b with
        | .cells sz cs => if sz = ei.size then some (hv = n ∧ mv = n ∧ n = cap ∧ off + cap * sz = cs.length, .sl b off n n, []) else none
        | _ => none
      | _ => none
    | _, _, _ => none
  | none, some ⟨_, _, _, _, .slice e⟩ => match T e with
    | some ei => match a with
      | .nilS => match bnds 0 lo hi with
        | some (c, x, y) => some (c, .nilS, [])
        | none => none
      | .fz tg n cs => match bnds n lo hi with
        | some (c, x, y) => (if ei.size = 0 then none else some (c ∧ n * ei.size ≤ cs.length, .fz tg (y - x) ((cs.take (y * ei.size)).drop (x * ei.size)), []))
        | none => none
      | .sl b off n cap => match g b with
        | .cells sz cs => if sz = ei.size then match bnds n lo hi with
          | some (c, x, y) => some (c ∧ off + cap * sz = cs.length, .sl b (off + x * sz) (y - x) (cap - x), [])
          | none => none else none
        | _ => none
      | _ => none
    | none => none
  | _, _ => none

def LIM : Nat := 4294967296

def aMakeSlice (T : TT) (id : Nat) (t : Nat) (n c : AV) : Res :=
  match T t, n, c with
  | some ⟨_, _, _, _, .slice e⟩, .i .i64 n, .i .i64 c => match T e with
    | some ei => match ei.zero.cells? with
      | some [z] => if ei.size = 1 ∧ ei.bytes ≤ 128 then some (0 ≤ n ∧ n ≤ c ∧ c ≤ LIM, .sl id 0 n.toNat c.toNat, [(id, .cells 1 (List.replicate c.toNat z))]) else none
      | _ => none
    | none => none
  | _, _, _ => none

/-- Parts laid into cells. -/
def fillAV (place : Nat → Option (Nat × Nat)) (cs : List AV) : List (Nat × AV) → Option (List AV)
  | [] => some cs
  | (i, v) :: rest => match place i, v.cells? with
    | some (off, size), some xs => if xs.length = size ∧ off + size ≤ cs.length then fillAV place (setMany cs off xs) rest else none
    | _, _ => none

def repCells (n : Nat) (z : List AV) : List AV := (List.replicate n z).flatten

def aBuildSlice (T : TT) (id : Nat) (t n : Nat) (parts : List (Nat × AV)) : Res :=
  match T t with
  | some ⟨_, _, _, _, .slice e⟩ => match T e with
    | some ei => match ei.zero.cells? with
      | some z => if n * ei.size ≤ 16777216 ∧ z.length = ei.size ∧ ei.size ≠ 0 then match fillAV (fun i => some (i * ei.size, ei.size)) (repCells n z) parts with
        | some cs => some (True, .sl id 0 n n, [(id, .cells ei.size cs)])
        | none => none else none
      | none => none
    | none => none
  | _ => none

/-- Where a struct's fields lie. -/
def placesOf (T : TT) : List (Nat × Nat) → Option (List (Nat × Nat))
  | [] => some []
  | (off, ft) :: r => match T ft, placesOf T r with
    | some fi, some l => some ((off, fi.size) :: l)
    | _, _ => none

def aBuild (T : TT) (t : Nat) (parts : List (Nat × AV)) : Res :=
  match T t with
  | some ⟨_, _, _, .agg z, .struct fs⟩ => match placesOf T fs with
    | some pl => match fillAV (fun i => pl[i]?) z parts with
      | some cs => pureR (.agg cs)
      | none => none
    | none => none
  | _ => none

def aAlloc (T : TT) (id t : Nat) : Res :=
  match T t with
  | some ti => match ti.zero.cells? with
    | some z => some (True, .p id 0 z.length, [(id, .cells ti.size z)])
    | none => none
  | none => none

def aBox (id : Nat) (x : AV) : Res :=
  match x.cells? with
  | some z => some (True, .p id 0 z.length, [(id, .cells 1 z)])
  | none => none

def intOp (op : BinOp) (k : IntKind) (a b : Int) : Res :=
  match op with
  | .add => pureR (.i k (k.wrap (a + b)))
  | .sub => pureR (.i k (k.wrap (a - b)))
  | .mul => pureR (.i k (k.wrap (a * b)))
  | .quo => some (b ≠ 0, .i k (k.wrap (a.tdiv b)), [])
  | .rem => some (b ≠ 0, .i k (a.tmod b), [])
  | .eql => pureR (.b (decide (a = b)))
  | .neq => pureR (.b (!decide (a = b)))
  | .lss => pureR (.b (decide (a < b)))
  | .leq => pureR (.b (decide (a ≤ b)))
  | .gtr => pureR (.b (decide (b < a)))
  | .geq => pureR (.b (decide (b ≤ a)))
  | .xor => pureR (.i k (k.wrap (BitVec.ofInt k.bits a ^^^ BitVec.ofInt k.bits b).toNat))
  | .and => pureR (.i k (k.wrap (BitVec.ofInt k.bits a &&& BitVec.ofInt k.bits b).toNat))
  | .or => pureR (.i k (k.wrap (BitVec.ofInt k.bits a ||| BitVec.ofInt k.bits b).toNat))
  | _ => none

def strOp (op : BinOp) (a b : List UInt8) : Res :=
  match op with
  | .add => some (((a.length + b.length : Nat) : Int) ≤ 9223372036854775807, .s (a ++ b), [])
  | .eql => pureR (.b (a == b))
  | .neq => pureR (.b (!(a == b)))
  | .lss => pureR (.b (Op.bytesLess a b))
  | .leq => pureR (.b (Op.bytesLess a b || a == b))
  | .gtr => pureR (.b (!(Op.bytesLess a b || a == b)))
  | .geq => pureR (.b (!Op.bytesLess a b))
  | _ => none

/-- ==, != of bools, of an error with nil, of a nil slice with nil. -/
def eqOp (T : TT) (op : BinOp) (t : Nat) (yc : Bool) (a b : AV) : Option Bool :=
  match T t, a, b with
  | some ⟨_, _, _, _, .bool⟩, .b x, .b y => some (x == y)
  | some ⟨_, _, _, _, .iface⟩, .err x, .err true => if yc then some x else none
  | some ⟨_, _, _, _, .slice _⟩, .nilS, .nilS => some true
  | _, _, _ => none

def aBinOp (T : TT) (op : BinOp) (t : Nat) (yc : Bool) (a b : AV) : Res :=
  match a, b with
  | .i k x, .i k' y => match op with
    | .shr => some (0 ≤ y, .i k (x.fdiv (2 ^ (min y.toNat k.bits))), [])
    | .shl => some (0 ≤ y, .i k (k.wrap (x * 2 ^ (min y.toNat k.bits))), [])
    | op => if k = k' then intOp op k x y else none
  | .s x, .s y => strOp op x y
  | .fz _ n _, .nilS => match op, T t with
    | .eql, some ⟨_, _, _, _, .slice _⟩ => some (0 < n, .b false, [])
    | .neq, some ⟨_, _, _, _, .slice _⟩ => some (0 < n, .b true, [])
    | _, _ => none
  | a, b => match op, eqOp T op t yc a b with
    | .eql, some r => pureR (.b r)
    | .neq, some r => pureR (.b !r)
    | _, _ => none

def isC : Operand → Bool
  | .const _ => true
  | _ => false

def aUn (op : UnOp) (a : AV) : Res :=
  match op, a with
  | .not, .b x => pureR (.b !x)
  | .neg, .i k n => pureR (.i k (k.wrap (0 - n)))
  | _, _ => none

/-- The bytes of a row of u8. -/
def bytesOf : List AV → Option (List UInt8)
  | [] => some []
  | .i .u8 n :: r => match bytesOf r with
    | some l => some (UInt8.ofNat n.toNat :: l)
    | none => none
  | _ :: _ => none

def rowOf (g : Nat → Blk) : AV → Option (Prop × Nat × List AV)
  | .nilS => some (True, 0, [])
  | .fz _ n cs => some (True, n, cs)
  | .sl b off n cap => match g b with
    | .cells sz cs => some (off + cap * sz = cs.length, n, cs.drop off)
    | _ => none
  | _ => none

def aConv0 (T : TT) (src dst : Nat) (a : AV) (r : Option (Prop × Nat × List AV)) : Res :=
  match T src, T dst, a with
  | some _, some ⟨_, _, _, _, .int k⟩, .i _ n => pureR (.i k (k.wrap n))
  | some ⟨_, _, _, _, .str⟩, some ⟨_, _, _, _, .str⟩, .s l => pureR (.s l)
  | some ⟨_, _, _, _, .slice e⟩, some ⟨_, _, _, _, .str⟩, a => match T e with
    | some ⟨1, _, _, _, .int .u8⟩ => match r with
      | some (c, n, cs) => match bytesOf (cs.take n) with
        | some l => some (c ∧ n ≤ cs.length, .s l, [])
        | none => none
      | none => none
    | _ => none
  | _, _, _ => none
def aConv (T : TT) (g : Nat → Blk) (src dst : Nat) (a : AV) : Res := aConv0 T src dst a (rowOf g a)

def aLen (T : TT) (t : Nat) (a : AV) : Res :=
  match T t, a with
  | some ⟨_, _, _, _, .str⟩, .s l => pureR (.i .i64 l.length)
  | some ⟨_, _, _, _, .slice _⟩, .fz _ n _ => pureR (.i .i64 n)
  | some ⟨_, _, _, _, .slice _⟩, .sl _ _ n _ => pureR (.i .i64 n)
  | some ⟨_, _, _, _, .slice _⟩, .nilS => pureR (.i .i64 0)
  | some ⟨_, _, _, _, .arr n _⟩, _ => pureR (.i .i64 n)
  | _, _ => none

/-- What is appended: its number of elements, its cells, whether it lies in block b. -/
def appSrc (g : Nat → Blk) (sz : Nat) (b : Nat) : AV → Option (Prop × Nat × List AV)
  | .fz _ m cs => some (cs.length = m * sz, m, cs)
  | .nilS => some (True, 0, [])
  | .sl b' off m cap => if b' = b then none else match g b' with
    | .cells sz' cs => if sz' = sz ∧ off = 0 then some (m = cap ∧ cap * sz = cs.length, m, cs) else none
    | _ => none
  | _ => none

/-- How many zeros are appended. -/
def zeroN (T : TT) (xt : Nat) (x : AV) : Option Int :=
  match T xt, x with
  | some ⟨_, _, _, _, .int .i64⟩, .i .i64 m => some m
  | _, _ => none

def zOk (ei : TI) : Bool := match ei.zero.cells? with
  | some z => z.length == ei.size
  | none => false

def aAppend (T : TT) (g : Nat → Blk) (id : Nat) (st xt : Nat) (s x : AV) : Res :=
  match T st with
  | some ⟨_, _, _, _, .slice e⟩ => match T e, T xt with
    | some ei, some ⟨_, _, _, _, .slice _⟩ => if ei.bytes ≤ 4096 ∧ ei.bytes ≠ 0 ∧ ei.size ≠ 0 ∧ zOk ei = true then match s with
      | .sl b off n cap => match g b with
        | .cells sz cs => if sz = ei.size ∧ off = 0 then match appSrc g sz b x with
          | some (c, m, ys) => if n = cap then some (c ∧ n = cap ∧ n * sz = cs.length ∧ n + m ≤ LIM ∧ ys.all AV.scal = true, .sl b 0 (n + m) (n + m), [(b, .cells sz (cs ++ ys))])
            else some (c ∧ cap * sz = cs.length ∧ n + m ≤ cap ∧ ys.all AV.scal = true, .sl b 0 (n + m) cap, [(b, .cells sz (setMany cs (n * sz) ys))])
          | none => none else none
        | _ => none
      | .nilS => match appSrc g ei.size id x with
        | some (c, m, ys) => some (c ∧ 0 < m ∧ m ≤ LIM, .sl id 0 m m, [(id, .cells ei.size ys)])
        | none => none
      | _ => none else none
    | some ei, _ => match zeroN T xt x, s, ei.zero.cells? with
      | some m, .nilS, some [z] => if ei.bytes ≤ 4096 ∧ ei.bytes ≠ 0 ∧ ei.size = 1 then some (0 < m ∧ m ≤ LIM, .sl id 0 m.toNat m.toNat, [(id, .cells 1 (List.replicate m.toNat z))]) else none
      | _, _, _ => none
    | _, _ => none
  | _ => none

def aCap (T : TT) (t : Nat) (a : AV) : Res :=
  match T t, a with
  | some ⟨_, _, _, _, .slice _⟩, .nilS => pureR (.i .i64 0)
  | _, _ => none

/-- copy: as many elements as both have, of one cell each. -/
def aCopy (T : TT) (g : Nat → Blk) (t : Nat) (d s : AV) : Res :=
  match T t, d with
  | some ⟨_, _, _, _, .slice e⟩, .sl b off n cap => match T e, g b, rowOf g s with
    | some ei, .cells sz cs, some (c, m, ys) => if sz = 1 ∧ ei.size = 1 then
        some (c ∧ off + cap * sz = cs.length ∧ m ≤ ys.length ∧ (ys.take (min m n)).all AV.scal = true, .i .i64 (min m n : Nat), [(b, .cells sz (setMany cs off (ys.take (min m n))))]) else none
    | _, _, _ => none
  | _, _ => none

def aExtract (a : AV) (k : Nat) : Res :=
  match a with
  | .tup vs => match vs[k]? with
    | some v => pureR v
    | none => none
  | _ => none

def aPick (c a b : AV) : Res :=
  match c with
  | .b x => pureR (bif x then a else b)
  | _ => none

def mlook (es : List (List UInt8 × Bool)) (k : List UInt8) : Option Bool :=
  match es with
  | [] => none
  | (x, v) :: r => if k = x then some v else mlook r k
def mput (es : List (List UInt8 × Bool)) (k : List UInt8) (v : Bool) : List (List UInt8 × Bool) :=
  match es with
  | [] => [(k, v)]
  | (x, u) :: r => if k = x then (k, v) :: r else (x, u) :: mput r k v

def aMapUpdate (T : TT) (g : Nat → Blk) (t : Nat) (m k v : AV) : Res :=
  match T t, m, k, v with
  | some ⟨_, _, _, _, .map kt _⟩, .mp b, .s key, .b val => match T kt, g b with
    | some ⟨_, _, _, _, .str⟩, .map es => some (True, .tup [], [(b, .map (mput es key val))])
    | _, _ => none
  | _, _, _, _ => none

def aLookup (T : TT) (g : Nat → Blk) (t : Nat) (m k : AV) : Res :=
  match T t, m, k with
  | some ⟨_, _, _, _, .map kt et⟩, .mp b, .s key => match T kt, T et, g b with
    | some ⟨_, _, _, _, .str⟩, some ⟨_, _, _, .b false, _⟩, .map es => pureR (.b ((mlook es key).getD false))
    | _, _, _ => none
  | _, _, _ => none

def aNilCheck : AV → Res
  | .p b off len => pureR (.p b off len)
  | .rp t cs off => pureR (.rp t cs off)
  | .fn f cs => pureR (.fn f cs)
  | .mp b => pureR (.mp b)
  | _ => none

def aMkI (T : TT) (t : Nat) : Res := match T t with
  | some ⟨_, _, _, _, .ptr⟩ => pureR (.err false)
  | some ⟨_, _, _, _, .str⟩ => pureR (.err false)
  | some ⟨_, _, _, _, .int _⟩ => pureR (.err false)
  | _ => none

def aop (T : TT) (o : Op) (ev : Operand → AV) (g : Nat → Blk) (id : Nat) : Res :=
  match o with
  | .move x => pureR (ev x)
  | .assign x => pureR (ev x)
  | .pick c a b => aPick (ev c) (ev a) (ev b)
  | .alloc t => aAlloc T id t
  | .box _ x => aBox id (ev x)
  | .build t parts => aBuild T t (parts.toList.map fun p => (p.1, ev p.2))
  | .buildSlice t n parts => aBuildSlice T id t n (parts.toList.map fun p => (p.1, ev p.2))
  | .load t a => aLoad T g t (ev a)
  | .store t a x => aStore T g t (ev a) (ev x)
  | .nilCheck x => aNilCheck (ev x)
  | .binOp op t x y _ => aBinOp T op t (isC y) (ev x) (ev y)
  | .unOp op _ x => aUn op (ev x)
  | .convert s d x => aConv T g s d (ev x)
  | .makeFunc fn first cap => match fn, first.size with
    | .func f, 0 => pureR (.fn f (cap.toList.map ev))
    | _, _ => none
  | .makeMap t r => match r with
    | none => some (True, .mp id, [(id, .map [])])
    | some _ => none
  | .makeSlice t n c => aMakeSlice T id t (ev n) (ev c)
  | .slice t x lo hi mx => aSlice T g t (ev x) (lo.map ev) (hi.map ev) (mx.map ev)
  | .fieldAddr s x f => aFieldAddr T s (ev x) f
  | .field s x f => aField T s (ev x) f
  | .indexAddr t x i => aIndexAddr T g t (ev x) (ev i)
  | .index t x i => aIndex T t (ev x) (ev i)
  | .lookup t x k false => aLookup T g t (ev x) (ev k)
  | .mapUpdate t m k v => aMapUpdate T g t (ev m) (ev k) (ev v)
  | .insert t m k v => aMapUpdate T g t (ev m) (ev k) (ev v)
  | .extract x k => aExtract (ev x) k
  | .makeInterface t x => aMkI T t
  | .call c => match c.callee, c.args.toList, c.argTypes.toList with
    | .builtin .len, [x], t :: _ => aLen T t (ev x)
    | .builtin .append, [s, x], [st, xt] => aAppend T g id st xt (ev s) (ev x)
    | .builtin .cap, [x], t :: _ => aCap T t (ev x)
    | .builtin .copy, [d, s], t :: _ => aCopy T g t (ev d) (ev s)
    | _, _, _ => none
  | _ => none

end Go.Proofs.Ytdacfgclclpooaa
