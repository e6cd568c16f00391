/- The abstract walk of a body: regions in the order of the text, tests, blocks, loops, returns. Conditions: none; definitions and their equations. -/
import Derived.Test.YtdacfgclclpooaaCbN
namespace Go.Proofs.Ytdacfgclclpooaa
open Go Go.RowKit
set_option linter.unusedVariables false
set_option linter.unusedSimpArgs false
set_option linter.unusedSectionVars false

abbrev Env := List (Nat × AV)
def eget : Env → Nat → AV
  | [], _ => .u
  | (t, a) :: e, s => if s = t then a else eget e s

def ev (e : Env) (G : Nat → AV) : Operand → AV
  | .tmp t => eget e t
  | .const v => ofV v
  | .global g => G g
  | .func f => .fn f []

def eput (e : Env) (d : Option Nat) (v : AV) : Env :=
  match d with
  | none => e
  | some t => (t, v) :: e

def updH : Hp → List (Nat × Blk) → Hp
  | h, [] => h
  | h, (b, x) :: r => updH (if b < h.length then h.set b x else h ++ [x]) r

inductive XE where
  | norm | exit (id : Nat) | ret

abbrev Kt := XE → Env → Hp → Prop

/-- What all walks over one program share: the program, its table of types, its variables, how many blocks a call was handed. -/
structure Xp where
  P : Program
  T : TT
  G : Nat → AV
  m : Nat

/-- An operation without what a walk does not ask; its guard by the slot. -/
structure SOp where
  d : Option Nat
  o : Op
  g : Option (Option Nat × Bool)

def gslot (all : Array Oper) (j : Nat) : Option Nat := (all[j]?).bind (·.dst)
def sOps (all : Array Oper) : List Oper → List SOp
  | [] => []
  | o :: os => ⟨o.dst, o.op, o.guard.map fun p => (gslot all p.1, p.2)⟩ :: sOps all os

inductive SC where
  | skip | reg (all : Option (Array Oper)) (ops : List SOp) | seq (a b : SC) | cond (c : Operand) (a b : SC) | block (id : Nat) (a : SC) | loop (a : SC) | exit (id : Nat) | ret | bad

def strip : Code → SC
  | .skip => .skip
  | .region _ ops false => .reg none (sOps ops ops.toList)
  | .region _ ops true => .reg (some ops) (sOps ops ops.toList)
  | .seq a b => .seq (strip a) (strip b)
  | .cond c a b => .cond c (strip a) (strip b)
  | .block id a => .block id (strip a)
  | .loop a => .loop (strip a)
  | .exit id => .exit id
  | .ret => .ret
  | .label _ => .skip
  | _ => .bad

mutual
/-- Own blocks that a value names. -/
def idsOf : AV → List Nat
  | .sl b .. => [b]
  | .p b .. => [b]
  | .mp b => [b]
  | .agg cs => idsAll cs
  | .tup cs => idsAll cs
  | .fn _ cs => idsAll cs
  | _ => []
def idsAll : List AV → List Nat
  | [] => []
  | a :: as => idsOf a ++ idsAll as
end
def idsB : Blk → List Nat
  | .cells _ cs => idsAll cs
  | _ => []
/-- The blocks whose cells an operation asks: most ask none. -/
def tch (ρ : Operand → AV) (o : Op) : List Nat :=
  match o with
  | .load _ x => idsOf (ρ x)
  | .store _ x _ => idsOf (ρ x)
  | .convert _ _ x => idsOf (ρ x)
  | .slice _ x _ _ _ => idsOf (ρ x)
  | .indexAddr _ x _ => idsOf (ρ x)
  | .lookup _ x _ _ => idsOf (ρ x)
  | .mapUpdate _ x _ _ => idsOf (ρ x)
  | .insert _ x _ _ => idsOf (ρ x)
  | .call ⟨.builtin .len, _, _⟩ => []
  | .call ⟨.builtin .cap, _, _⟩ => []
  | .call c => idsAll (c.args.toList.map ρ)
  | _ => []

abbrev Acc := Option (List (List Nat × List Nat))
def addR : Acc → List Nat → List Nat → Acc
  | none, _, _ => none
  | some l, t, w => some ((t, w) :: l)

/-- What each operation waits for. -/
def waits1 (acc : List (List Nat)) (o : Oper) : List Nat := o.after.toList.flatMap fun e => if Region.binds .any e then e.on :: acc.getD e.on [] else []
def waitsFrom : List (List Nat) → List Oper → List (List Nat)
  | acc, [] => acc
  | acc, o :: os => waitsFrom (acc ++ [waits1 acc o]) os

/-- i and j, neither of which waits for the other, do not meet: the slots, the blocks. -/
def apartOK (all : Array Oper) (l : List (List Nat × List Nat)) (i j : Nat) : Bool :=
  match all[i]?, all[j]?, l[i]?, l[j]? with
  | some oi, some oj, some (t, w), some (_, w') => (match oj.dst with | some d => !(oi.looksAt all).contains d && oi.dst != some d | none => true) && w'.all fun b => !t.contains b && !w.contains b
  | _, _, _, _ => false

def drawOK (all : Array Oper) (l : List (List Nat × List Nat)) : Bool :=
  let B := waitsFrom [] all.toList
  ((List.range all.size).all fun i => match all[i]? with | some o => o.after.toList.all fun e => !Region.binds .any e || decide (e.on < i) | none => false) &&
  (List.range all.size).all fun i => (List.range all.size).all fun j => i == j || (B.getD i []).contains j || (B.getD j []).contains i || apartOK all l i j

/-- The blocks that a callee makes get the next numbers. -/
def ids (L : List Nat) (h H0 : Hp) : List Nat := L ++ List.range' h.length (H0.length - L.length)

def bk (J : List Nat) (h H0 : Hp) : Hp := updH h (J.zip (H0.map (unB J)))

def callP (X : Xp) (f : AV) (args : List AV) (dst : Option Nat) (next : Env → Hp → Acc → Prop) (e : Env) (h : Hp) (acc : Acc) : Prop :=
  ∃ fn caps L v0 H0, f = .fn fn caps ∧ IC X.P X.G fn (rss L true (get h) (args ++ caps)) (rsG L true (get h)) v0 H0 ∧ L.Nodup ∧ (∀ b ∈ L, b < h.length ∧ get h b ≠ .hole) ∧ L.length ≤ H0.length ∧
    next (eput e dst (un (ids L h H0) v0)) (bk (ids L h H0) h H0) (addR acc (idsAll (args ++ caps) ++ (L ++ L.flatMap fun b => idsB (get h b))) (ids L h H0))

def plainP (r : Res) (dst : Option Nat) (tc : List Nat) (next : Env → Hp → Acc → Prop) (e : Env) (h : Hp) (acc : Acc) : Prop :=
  match r with
  | none => False
  | some (c, v, up) => c ∧ next (eput e dst v) (updH h up) (addR acc tc (up.map (·.1)))

def execP (X : Xp) (d : Option Nat) (o : Op) (next : Env → Hp → Acc → Prop) (e : Env) (h : Hp) (acc : Acc) : Prop :=
  match o with
  | .call ⟨.value f, args, _⟩ => callP X (ev e X.G f) (args.toList.map (ev e X.G)) d next e h acc
  | o => plainP (aop X.T o (ev e X.G) (get h) h.length) d (tch (ev e X.G) o) next e h acc

def gdP (X : Xp) (o : SOp) (next : Env → Hp → Acc → Prop) (e : Env) (h : Hp) (acc : Acc) : Prop :=
  match o.g with
  | none => execP X o.d o.o next e h acc
  | some (none, _) => False
  | some (some s, want) => match eget e s with
    | .b x => (x = want → execP X o.d o.o next ((s, .b want) :: e) h acc) ∧ (x = !want → next (eput ((s, .b !want) :: e) o.d (.tup [])) h (addR acc [] []))
    | .tup [] => next (eput e o.d (.tup [])) h (addR acc [] [])
    | _ => False

def endP (all : Option (Array Oper)) (acc : Acc) (p : Prop) : Prop :=
  match all, acc with
  | some all, some l => drawOK all l.reverse = true ∧ p
  | none, _ => p
  | some _, none => False

def runS (X : Xp) (all : Option (Array Oper)) : List SOp → Env → Hp → Acc → Kt → Prop
  | [], e, h, acc, K => endP all acc (K .norm e h)
  | o :: os, e, h, acc, K => gdP X o (fun e h acc => runS X all os e h acc K) e h acc

/-- A canonical state that another one is as good as. -/
def Wk (m : Nat) (e : Env) (h : Hp) (e1 : Env) (h1 : Hp) : Prop :=
  ∃ L : List Nat, L.Nodup ∧ L.take m = List.range m ∧ m ≤ L.length ∧ (∀ b ∈ L, get h b ≠ .hole) ∧ h1 = rsG L false (get h) ∧ ∀ p ∈ e1, p.2 = rs L false (get h) (eget e p.1)

def SeqK (next : Env → Hp → Prop) (K : Kt) : Kt
  | .norm, e, h => next e h
  | x, e, h => K x e h

def BlkK (id : Nat) (K : Kt) : Kt
  | .exit id', e, h => if id' = id then K .norm e h else K (.exit id') e h
  | x, e, h => K x e h

def awp (X : Xp) : SC → Env → Hp → Kt → Prop
  | .skip, e, h, K => K .norm e h
  | .reg all ops, e, h, K => runS X all ops e h (all.map fun _ => []) K
  | .seq a b, e, h, K => awp X a e h (SeqK (fun e h => awp X b e h K) K)
  | .cond c a b, e, h, K => match ev e X.G c with
    | .b x => (x = true → awp X a e h K) ∧ (x = false → awp X b e h K)
    | _ => False
  | .block id a, e, h, K => awp X a e h (BlkK id K)
  | .loop a, e, h, K => ∃ (ι : Type) (I : ι → Env × Hp) (Inv : ι → Prop) (μ : ι → Nat) (i : ι), Inv i ∧ Wk X.m e h (I i).1 (I i).2 ∧
      ∀ i, Inv i → awp X a (I i).1 (I i).2 (SeqK (fun e' h' => ∃ j, Inv j ∧ μ j < μ i ∧ Wk X.m e' h' (I j).1 (I j).2) K)
  | .exit id, e, h, K => K (.exit id) e h
  | .ret, e, h, K => K .ret e h
  | .bad, _, _, _ => False

/-! ### what a walk rewrites by: no binder in sight -/

def CallP (X : Xp) (all : Option (Array Oper)) (os : List SOp) (K : Kt) (f : AV) (args : List AV) (dst : Option Nat) (e : Env) (h : Hp) (acc : Acc) : Prop :=
  callP X f args dst (fun e h acc => runS X all os e h acc K) e h acc
def Plain (X : Xp) (all : Option (Array Oper)) (os : List SOp) (K : Kt) (r : Res) (dst : Option Nat) (tc : List Nat) (e : Env) (h : Hp) (acc : Acc) : Prop :=
  plainP r dst tc (fun e h acc => runS X all os e h acc K) e h acc
def Exec (X : Xp) (all : Option (Array Oper)) (os : List SOp) (K : Kt) (d : Option Nat) (o : Op) (e : Env) (h : Hp) (acc : Acc) : Prop :=
  execP X d o (fun e h acc => runS X all os e h acc K) e h acc
def Gd (X : Xp) (all : Option (Array Oper)) (os : List SOp) (K : Kt) (d : Option Nat) (o : Op) (s : Nat) (a : AV) (want : Bool) (e : Env) (h : Hp) (acc : Acc) : Prop :=
  match a with
  | .b x => (x = want → Exec X all os K d o ((s, .b want) :: e) h acc) ∧ (x = !want → runS X all os (eput ((s, .b !want) :: e) d (.tup [])) h (addR acc [] []) K)
  | .tup [] => runS X all os (eput e d (.tup [])) h (addR acc [] []) K
  | _ => False
def SeqC (X : Xp) (b : SC) (K : Kt) : Kt := SeqK (fun e h => awp X b e h K) K
def LoopP (X : Xp) (a : SC) (e : Env) (h : Hp) (K : Kt) : Prop := awp X (.loop a) e h K
def CondP (X : Xp) (v : AV) (a b : SC) (e : Env) (h : Hp) (K : Kt) : Prop :=
  match v with
  | .b x => (x = true → awp X a e h K) ∧ (x = false → awp X b e h K)
  | _ => False

theorem sOps_nil (all) : sOps all [] = [] := rfl
theorem sOps_cons (all d o ty pos aft os) : sOps all (⟨d, o, ty, pos, aft, none⟩ :: os) = ⟨d, o, none⟩ :: sOps all os := rfl
theorem sOps_guard (all d o ty pos aft j w os) : sOps all (⟨d, o, ty, pos, aft, some (j, w)⟩ :: os) = ⟨d, o, some (gslot all j, w)⟩ :: sOps all os := rfl
theorem gslot_zero (d o ty pos aft g os) : gslot (List.toArray (⟨d, o, ty, pos, aft, g⟩ :: os)) 0 = d := by simp [gslot]
theorem gslot_succ (x os j) : gslot (List.toArray (x :: os)) (j + 1) = gslot (List.toArray os) j := by simp [gslot]

section
variable (X : Xp) (all : Option (Array Oper)) (os : List SOp) (K : Kt) (e : Env) (h : Hp) (acc : Acc) (d : Option Nat)
theorem runS_nil : runS X none [] e h acc K = K .norm e h := rfl
theorem runS_nilD (a l) : runS X (some a) [] e h (some l) K = (drawOK a l.reverse = true ∧ K .norm e h) := rfl
theorem runS_cons (o) : runS X all (⟨d, o, none⟩ :: os) e h acc K = Exec X all os K d o e h acc := rfl
theorem runS_guard (o s want) : runS X all (⟨d, o, some (some s, want)⟩ :: os) e h acc K = Gd X all os K d o s (eget e s) want e h acc := rfl
theorem Gd_b (o s x want) : Gd X all os K d o s (.b x) want e h acc = ((x = want → Exec X all os K d o ((s, .b want) :: e) h acc) ∧ (x = !want → runS X all os (eput ((s, .b !want) :: e) d (.tup [])) h (addR acc [] []) K)) := rfl
theorem Gd_yes (o s) (want : Bool) : Gd X all os K d o s (.b want) want e h acc = Exec X all os K d o ((s, .b want) :: e) h acc := by
  cases want <;> simp [Gd]
theorem Gd_no1 (o s) : Gd X all os K d o s (.b true) false e h acc = runS X all os (eput ((s, .b true) :: e) d (.tup [])) h (addR acc [] []) K := by simp [Gd]
theorem Gd_no2 (o s) : Gd X all os K d o s (.b false) true e h acc = runS X all os (eput ((s, .b false) :: e) d (.tup [])) h (addR acc [] []) K := by simp [Gd]
theorem Gd_undef (o s want) : Gd X all os K d o s (.tup []) want e h acc = runS X all os (eput e d (.tup [])) h (addR acc [] []) K := rfl
theorem Exec_call (f args ats) : Exec X all os K d (.call ⟨.value f, args, ats⟩) e h acc = CallP X all os K (ev e X.G f) (args.toList.map (ev e X.G)) d e h acc := rfl
theorem Ex_move (x) : Exec X all os K d (.move x) e h acc = Plain X all os K (pureR (ev e X.G x)) d (tch (ev e X.G) (.move x)) e h acc := rfl
theorem Ex_assign (x) : Exec X all os K d (.assign x) e h acc = Plain X all os K (pureR (ev e X.G x)) d (tch (ev e X.G) (.assign x)) e h acc := rfl
theorem Ex_pick (x y z) : Exec X all os K d (.pick x y z) e h acc = Plain X all os K (aPick (ev e X.G x) (ev e X.G y) (ev e X.G z)) d (tch (ev e X.G) (.pick x y z)) e h acc := rfl
theorem Ex_alloc (t) : Exec X all os K d (.alloc t) e h acc = Plain X all os K (aAlloc X.T h.length t) d (tch (ev e X.G) (.alloc t)) e h acc := rfl
theorem Ex_box (t x) : Exec X all os K d (.box t x) e h acc = Plain X all os K (aBox h.length (ev e X.G x)) d (tch (ev e X.G) (.box t x)) e h acc := rfl
theorem Ex_build (t parts) : Exec X all os K d (.build t parts) e h acc = Plain X all os K (aBuild X.T t (parts.toList.map fun p => (p.1, ev e X.G p.2))) d (tch (ev e X.G) (.build t parts)) e h acc := rfl
theorem Ex_buildSlice (t n parts) : Exec X all os K d (.buildSlice t n parts) e h acc = Plain X all os K (aBuildSlice X.T h.length t n (parts.toList.map fun p => (p.1, ev e X.G p.2))) d (tch (ev e X.G) (.buildSlice t n parts)) e h acc := rfl
theorem Ex_load (t x) : Exec X all os K d (.load t x) e h acc = Plain X all os K (aLoad X.T (get h) t (ev e X.G x)) d (tch (ev e X.G) (.load t x)) e h acc := rfl
theorem Ex_store (t x y) : Exec X all os K d (.store t x y) e h acc = Plain X all os K (aStore X.T (get h) t (ev e X.G x) (ev e X.G y)) d (tch (ev e X.G) (.store t x y)) e h acc := rfl
theorem Ex_nilCheck (x) : Exec X all os K d (.nilCheck x) e h acc = Plain X all os K (aNilCheck (ev e X.G x)) d (tch (ev e X.G) (.nilCheck x)) e h acc := rfl
theorem Ex_binOp (op t x y t2) : Exec X all os K d (.binOp op t x y t2) e h acc = Plain X all os K (aBinOp X.T op t (isC y) (ev e X.G x) (ev e X.G y)) d (tch (ev e X.G) (.binOp op t x y t2)) e h acc := rfl
theorem Ex_unOp (op t x) : Exec X all os K d (.unOp op t x) e h acc = Plain X all os K (aUn op (ev e X.G x)) d (tch (ev e X.G) (.unOp op t x)) e h acc := rfl
theorem Ex_convert (s d' x) : Exec X all os K d (.convert s d' x) e h acc = Plain X all os K (aConv X.T (get h) s d' (ev e X.G x)) d (tch (ev e X.G) (.convert s d' x)) e h acc := rfl
theorem Ex_makeSlice (t x y) : Exec X all os K d (.makeSlice t x y) e h acc = Plain X all os K (aMakeSlice X.T h.length t (ev e X.G x) (ev e X.G y)) d (tch (ev e X.G) (.makeSlice t x y)) e h acc := rfl
theorem Ex_slice (t x lo hi mx) : Exec X all os K d (.slice t x lo hi mx) e h acc = Plain X all os K (aSlice X.T (get h) t (ev e X.G x) (lo.map (ev e X.G)) (hi.map (ev e X.G)) (mx.map (ev e X.G))) d (tch (ev e X.G) (.slice t x lo hi mx)) e h acc := rfl
theorem Ex_fieldAddr (s x f) : Exec X all os K d (.fieldAddr s x f) e h acc = Plain X all os K (aFieldAddr X.T s (ev e X.G x) f) d (tch (ev e X.G) (.fieldAddr s x f)) e h acc := rfl
theorem Ex_field (s x f) : Exec X all os K d (.field s x f) e h acc = Plain X all os K (aField X.T s (ev e X.G x) f) d (tch (ev e X.G) (.field s x f)) e h acc := rfl
theorem Ex_indexAddr (t x y) : Exec X all os K d (.indexAddr t x y) e h acc = Plain X all os K (aIndexAddr X.T (get h) t (ev e X.G x) (ev e X.G y)) d (tch (ev e X.G) (.indexAddr t x y)) e h acc := rfl
theorem Ex_index (t x y) : Exec X all os K d (.index t x y) e h acc = Plain X all os K (aIndex X.T t (ev e X.G x) (ev e X.G y)) d (tch (ev e X.G) (.index t x y)) e h acc := rfl
theorem Ex_mapUpdate (t x y z) : Exec X all os K d (.mapUpdate t x y z) e h acc = Plain X all os K (aMapUpdate X.T (get h) t (ev e X.G x) (ev e X.G y) (ev e X.G z)) d (tch (ev e X.G) (.mapUpdate t x y z)) e h acc := rfl
theorem Ex_insert (t x y z) : Exec X all os K d (.insert t x y z) e h acc = Plain X all os K (aMapUpdate X.T (get h) t (ev e X.G x) (ev e X.G y) (ev e X.G z)) d (tch (ev e X.G) (.insert t x y z)) e h acc := rfl
theorem Ex_extract (x k) : Exec X all os K d (.extract x k) e h acc = Plain X all os K (aExtract (ev e X.G x) k) d (tch (ev e X.G) (.extract x k)) e h acc := rfl
theorem Ex_lookup (t x y) : Exec X all os K d (.lookup t x y false) e h acc = Plain X all os K (aLookup X.T (get h) t (ev e X.G x) (ev e X.G y)) d (tch (ev e X.G) (.lookup t x y false)) e h acc := rfl
theorem Ex_makeMap (t) : Exec X all os K d (.makeMap t none) e h acc = Plain X all os K (some (True, .mp h.length, [(h.length, .map [])])) d [] e h acc := rfl
theorem Ex_makeFunc (f cap) : Exec X all os K d (.makeFunc (.func f) #[] cap) e h acc = Plain X all os K (pureR (.fn f (cap.toList.map (ev e X.G)))) d (tch (ev e X.G) (.makeFunc (.func f) #[] cap)) e h acc := rfl
theorem Ex_len (x t) : Exec X all os K d (.call ⟨.builtin .len, #[x], #[t]⟩) e h acc = Plain X all os K (aLen X.T t (ev e X.G x)) d (tch (ev e X.G) (.call ⟨.builtin .len, #[x], #[t]⟩)) e h acc := rfl
theorem Ex_append (x y t u) : Exec X all os K d (.call ⟨.builtin .append, #[x, y], #[t, u]⟩) e h acc = Plain X all os K (aAppend X.T (get h) h.length t u (ev e X.G x) (ev e X.G y)) d (tch (ev e X.G) (.call ⟨.builtin .append, #[x, y], #[t, u]⟩)) e h acc := rfl
theorem Ex_cap (x t) : Exec X all os K d (.call ⟨.builtin .cap, #[x], #[t]⟩) e h acc = Plain X all os K (aCap X.T t (ev e X.G x)) d (tch (ev e X.G) (.call ⟨.builtin .cap, #[x], #[t]⟩)) e h acc := rfl
theorem Ex_copy (x y t u) : Exec X all os K d (.call ⟨.builtin .copy, #[x, y], #[t, u]⟩) e h acc = Plain X all os K (aCopy X.T (get h) t (ev e X.G x) (ev e X.G y)) d (tch (ev e X.G) (.call ⟨.builtin .copy, #[x, y], #[t, u]⟩)) e h acc := rfl
theorem Ex_makeInterface (t x) : Exec X all os K d (.makeInterface t x) e h acc = Plain X all os K (aMkI X.T t) d (tch (ev e X.G) (.makeInterface t x)) e h acc := rfl
theorem Plain_pure (v tc) : Plain X all os K (pureR v) d tc e h acc = runS X all os (eput e d v) h (addR acc tc []) K := by
  simp [Plain, plainP, pureR, updH]
theorem Plain_some (c v up tc) : Plain X all os K (some (c, v, up)) d tc e h acc = (c ∧ runS X all os (eput e d v) (updH h up) (addR acc tc (up.map (·.1))) K) := rfl
theorem addR_none (t w) : addR none t w = none := rfl
theorem addR_some (l t w) : addR (some l) t w = some ((t, w) :: l) := rfl
theorem awp_skip : awp X .skip e h K = K .norm e h := rfl
theorem awp_reg (ops) : awp X (.reg none ops) e h K = runS X none ops e h none K := rfl
theorem awp_regD (a ops) : awp X (.reg (some a) ops) e h K = runS X (some a) ops e h (some []) K := rfl
theorem awp_seq (a b) : awp X (.seq a b) e h K = awp X a e h (SeqC X b K) := rfl
theorem awp_cond (c a b) : awp X (.cond c a b) e h K = CondP X (ev e X.G c) a b e h K := rfl
theorem CondP_b (x a b) : CondP X (.b x) a b e h K = ((x = true → awp X a e h K) ∧ (x = false → awp X b e h K)) := rfl
theorem CondP_true (a b) : CondP X (.b true) a b e h K = awp X a e h K := by simp [CondP]
theorem CondP_false (a b) : CondP X (.b false) a b e h K = awp X b e h K := by simp [CondP]
theorem awp_block (id a) : awp X (.block id a) e h K = awp X a e h (BlkK id K) := rfl
theorem awp_loop (a) : awp X (.loop a) e h K = LoopP X a e h K := rfl
theorem awp_exit (id) : awp X (.exit id) e h K = K (.exit id) e h := rfl
theorem awp_ret : awp X .ret e h K = K .ret e h := rfl
theorem SeqC_norm (b) : SeqC X b K .norm e h = awp X b e h K := rfl
theorem SeqC_exit (b id) : SeqC X b K (.exit id) e h = K (.exit id) e h := rfl
theorem SeqC_ret (b) : SeqC X b K .ret e h = K .ret e h := rfl
theorem BlkK_norm (id) : BlkK id K .norm e h = K .norm e h := rfl
theorem BlkK_ret (id) : BlkK id K .ret e h = K .ret e h := rfl
theorem BlkK_exit (id id') : BlkK id K (.exit id') e h = if id' = id then K .norm e h else K (.exit id') e h := rfl
end

end Go.Proofs.Ytdacfgclclpooaa
