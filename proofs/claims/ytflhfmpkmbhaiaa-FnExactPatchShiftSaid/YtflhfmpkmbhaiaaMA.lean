/- An abstract machine over plain lists: its values, its operations and the rules by which a function's text is run on them. Definitions alone. -/
import Derived.Orders
import Derived.Below
import Derived.Laws.MakeOwn
import Derived.Laws.OwnMore
import Derived.Laws.Entries
import Derived.Laws.Cells
import Derived.Laws.Sem
import Derived.Laws.Small
import Derived.Laws.Strings
import Derived.Laws.BytesArg
import Derived.Laws.Cover3
import Derived.Laws.Tables
namespace Go.AVM
set_option linter.unusedSimpArgs false

inductive AV where
  | undef
  | bool (b : Bool)
  | int (k : IntKind) (n : Int)
  | str (s : ByteArray)
  | agg (fs : List AV)
  | emp
  | lsl (t : Option (Nat × Nat)) (len : Nat) (xs : List AV)
  | own (d b s len : Nat)
  | lptr (x : AV)
  | optr (d b s i : Nat) (f : Option Nat)
  | fn (f : FuncId) (cap : List AV)
  | tup (vs : List AV)
  /-- all that is in it lies in blocks below B -/
  | old (B : Nat) (x : AV)
  deriving Inhabited

structure Blk where
  b : Nat
  s : Nat
  xs : List AV
  fz : Bool
  row : Bool
  /-- no room behind the elements -/
  ex : Bool

abbrev Env := Nat → AV
abbrev Hp := Nat → Option Blk

def upd (E : Env) (d : Nat) (v : AV) : Env := fun t => if t = d then v else E t
def updH (H : Hp) (d : Nat) (v : Option Blk) : Hp := fun t => if t = d then v else H t

inductive Opd where
  | t (n : Nat)
  | c (v : AV)
  deriving Inhabited

def ev (E : Env) : Opd → AV
  | .t n => E n
  | .c v => v

def AV.isAgg : AV → Bool
  | .agg _ => true
  | _ => false

/-- how many cells an element takes; 0 where it can't be told -/
def AV.sz : AV → Nat
  | .agg fs => fs.length
  | .undef => 0
  | .tup _ => 0
  | .old _ _ => 0
  | _ => 1

/-- a value that no cell of its own stands behind -/
def AV.scal0 : AV → Bool
  | .bool _ | .int _ _ | .str _ => true
  | _ => false
def AV.scal : AV → Bool
  | .bool _ | .int _ _ | .str _ | .undef => true
  | .tup vs => vs.all AV.scal0
  | _ => false

inductive VOp where
  | mv (d : Nat) (x : Opd)
  | bin (d : Nat) (op : BinOp) (x y : Opd)
  | not (d : Nat) (x : Opd)
  | beq (d : Nat) (neg : Bool) (x y : Opd)
  | pick (d : Nat) (c x y : Opd)
  | len (d : Nat) (str : Bool) (x : Opd)
  | idx (d : Nat) (x i : Opd)
  | idxA (d s : Nat) (x i : Opd)
  | fldA (d : Nat) (x : Opd) (f : Nat)
  | ld (d : Nat) (x : Opd) (sz : Option Nat)
  | slc (d s : Nat) (x : Opd) (lo hi : Option Opd)
  | slc0 (d : Nat) (x : Opd)
  | ext (d : Nat) (x : Opd) (i : Nat)
  | fld (d : Nat) (x : Opd) (f : Nat)
  | bld (d : Nat) (xs : List Opd)
  | conv (d : Nat) (k : IntKind) (x : Opd)
  | mx (d : Nat) (gt : Bool) (x y : Opd)
  | mkf (d f : Nat) (caps : List Opd)
  | nilck (d : Nat) (x : Opd)
  | neg (d : Nat) (x : Opd)
  | isnil (d : Nat) (ne : Bool) (x : Opd)
  -- an empty literal, and what is put behind it: in whatever order among themselves
  | uem (d s : Nat)
  | ucl (d s : Nat) (x y : Opd) (bytes : Nat)
  | uend
  -- what may stand beside them: a new variable (nn: in the place of none), a call whose arguments read without the heap, a struct
  | ualc (d s : Nat) (z : AV) (nn : Bool)
  | ucall (d : Nat) (f : Opd) (xs : List Opd)
  | ubld (d : Nat) (xs : List Opd)
  -- the ones that make or write memory, or call
  | alc (d s : Nat) (z : AV)
  | box (d s : Nat) (x : Opd)
  | mks (d s : Nat) (n : Opd) (z : AV) (bytes : Nat)
  | bls (d s : Nat) (xs : List Opd) (kp : Bool)
  | st (x v : Opd) (sz : Option Nat)
  | app (d s : Nat) (x y : Opd) (bytes : Nat) (fr kp : Bool)
  | b2s (d : Nat) (x : Opd)
  | call (d : Nat) (f : Opd) (xs : List Opd) (imp fl : Bool)
  | callm (d : Nat) (f : Opd) (xs : List Opd)
  deriving Inhabited

structure GOp where
  g : Option (Nat × Bool)
  o : VOp

inductive VC where
  | skip
  | reg (ops : List GOp) (ord : List Nat)
  | seq (a b : VC)
  | cond (c : Opd) (a b : VC)
  | block (id : Nat) (c : VC)
  | loop (c : VC)
  | exit (id : Nat)
  | ret
  /-- a step of the proof alone -/
  | ghost (c : VC)
  /-- code that is not told, and not to be reached -/
  | stuck

inductive VX where
  | normal
  | exit (id : Nat)
  | ret

/-! ### what the quiet operations give -/
def binv : BinOp → AV → AV → Option AV
  | .add, .int k a, .int j b => if k = j then some (.int k (k.wrap (a + b))) else none
  | .sub, .int k a, .int j b => if k = j then some (.int k (k.wrap (a - b))) else none
  | .mul, .int k a, .int j b => if k = j then some (.int k (k.wrap (a * b))) else none
  | .quo, .int k a, .int j b => if k = j ∧ b ≠ 0 then some (.int k (k.wrap (a.tdiv b))) else none
  | .rem, .int k a, .int j b => if k = j ∧ b ≠ 0 then some (.int k (a.tmod b)) else none
  | .xor, .int k a, .int j b => if k = j then some (.int k (k.wrap (BitVec.ofInt k.bits a ^^^ BitVec.ofInt k.bits b).toNat)) else none
  | .shr, .int k a, .int _ b => if 0 ≤ b then some (.int k (a.fdiv (2 ^ min b.toNat k.bits))) else none
  | .eql, .int k a, .int j b => if k = j then some (.bool (a == b)) else none
  | .neq, .int k a, .int j b => if k = j then some (.bool (a != b)) else none
  | .lss, .int k a, .int j b => if k = j then some (.bool (a < b)) else none
  | .leq, .int k a, .int j b => if k = j then some (.bool (a ≤ b)) else none
  | .gtr, .int k a, .int j b => if k = j then some (.bool (a > b)) else none
  | .geq, .int k a, .int j b => if k = j then some (.bool (a ≥ b)) else none
  | .add, .str a, .str b => if (a.size + b.size : Nat) ≤ 9223372036854775807 then some (.str (a ++ b)) else none
  | .eql, .str a, .str b => some (.bool (a.toList == b.toList))
  | .neq, .str a, .str b => some (.bool (!(a.toList == b.toList)))
  | .lss, .str a, .str b => some (.bool (Op.bytesLess a.toList b.toList))
  | .leq, .str a, .str b => some (.bool (Op.bytesLess a.toList b.toList || a.toList == b.toList))
  | .gtr, .str a, .str b => some (.bool (!(Op.bytesLess a.toList b.toList || a.toList == b.toList)))
  | .geq, .str a, .str b => some (.bool (!(Op.bytesLess a.toList b.toList)))
  | _, _, _ => none

def lenv : Bool → AV → Option Nat
  | true, .str s => some s.size
  | false, .emp => some 0
  | false, .lsl _ len _ => some len
  | false, .own _ _ _ len => some len
  | _, _ => none

def u8s : List AV → Option (List Int)
  | [] => some []
  | .int .u8 n :: xs => (u8s xs).map (n :: ·)
  | _ => none
def bytesOf (ns : List Int) : ByteArray := ⟨(ns.map fun n => UInt8.ofNat n.toNat).toArray⟩
/-- A quiet operation: the slot that it writes and the value, in the way of a continuation. -/
def vq (E : Env) (H : Hp) : VOp → (Nat → AV → Prop) → Prop
  | .mv d x, K => K d (ev E x)
  | .bin d op x y, K => ∃ v, binv op (ev E x) (ev E y) = some v ∧ K d v
  | .not d x, K => ∃ b, ev E x = .bool b ∧ K d (.bool (!b))
  | .beq d neg x y, K => ∃ a b, ev E x = .bool a ∧ ev E y = .bool b ∧ K d (.bool (if neg = true then !(a == b) else (a == b)))
  | .pick d c x y, K => ∃ b, ev E c = .bool b ∧ K d (if b = true then ev E x else ev E y)
  | .len d b x, K => ∃ n, lenv b (ev E x) = some n ∧ K d (.int .i64 n)
  | .idx d x i, K => match ev E x, ev E i with
    | .str s, .int _ i => ∃ c, s.data[i.toNat]? = some c ∧ 0 ≤ i ∧ K d (.int .u8 c.toNat)
    | _, _ => False
  | .idxA d s x i, K => match ev E x, ev E i with
    | .lsl _ len xs, .int _ i => ∃ y, xs[i.toNat]? = some y ∧ 0 ≤ i ∧ i < len ∧ y.sz = s ∧ K d (.lptr y)
    | .own d' b s' len, .int _ i => 0 ≤ i ∧ i < len ∧ s' = s ∧ K d (.optr d' b s i.toNat none)
    | _, _ => False
  | .fldA d x f, K => match ev E x with
    | .lptr (.agg fs) => ∃ y, fs[f]? = some y ∧ y.isAgg = false ∧ y.sz = 1 ∧ K d (.lptr y)
    | .optr d' b s i none => f < s ∧ K d (.optr d' b s i (some f))
    | _ => False
  | .ld d x sz, K => match ev E x with
    | .lptr y => (match sz with | none => y.isAgg = false ∧ y.sz = 1 | some m => ∃ fs, y = .agg fs ∧ fs.length = m) ∧ K d y
    | .optr d' b s i none => ∃ k, H d' = some k ∧ k.b = b ∧ k.s = s ∧ ∃ y, k.xs[i]? = some y ∧
        (match sz with | none => y.isAgg = false ∧ s = 1 | some m => ∃ fs, y = .agg fs ∧ fs.length = m) ∧ K d y
    | .optr d' b s i (some f) => ∃ k, H d' = some k ∧ k.b = b ∧ k.s = s ∧ ∃ fs, k.xs[i]? = some (.agg fs) ∧ ∃ y, fs[f]? = some y ∧ y.isAgg = false ∧ sz = none ∧ K d y
    | _ => False
  | .slc d s x lo hi, K => match ev E x, lo.map (ev E), hi.map (ev E) with
    | .str v, none, some (.int _ h) => s = 0 ∧ 0 ≤ h ∧ h ≤ v.size ∧ K d (.str (v.extract 0 h.toNat))
    | .str v, some (.int _ l), none => s = 0 ∧ 0 ≤ l ∧ l ≤ v.size ∧ K d (.str (v.extract l.toNat v.size))
    | .str v, some (.int _ l), some (.int _ h) => s = 0 ∧ 0 ≤ l ∧ l ≤ h ∧ h ≤ v.size ∧ K d (.str (v.extract l.toNat h.toNat))
    | .lsl t _ xs, none, some (.int _ h) => 0 < s ∧ 0 ≤ h ∧ h ≤ xs.length ∧ K d (.lsl t h.toNat xs)
    | .lsl _ len xs, some (.int _ l), none => 0 < s ∧ 0 ≤ l ∧ l ≤ len ∧ (∀ y, xs.head? = some y → y.sz = s) ∧ K d (.lsl none (len - l.toNat) (xs.drop l.toNat))
    | .lsl _ _ xs, some (.int _ l), some (.int _ h) => 0 < s ∧ 0 ≤ l ∧ l ≤ h ∧ h ≤ xs.length ∧ (∀ y, xs.head? = some y → y.sz = s) ∧ K d (.lsl none (h.toNat - l.toNat) (xs.drop l.toNat))
    | .own d' b s' _, none, some (.int _ h) => 0 < s ∧ ∃ k, H d' = some k ∧ k.b = b ∧ k.s = s' ∧ 0 ≤ h ∧ h ≤ k.xs.length ∧ K d (.own d' b s' h.toNat)
    | .emp, none, some (.int _ 0) => 0 < s ∧ K d .emp
    | _, _, _ => False
  | .slc0 d x, K => match ev E x with
    | .lsl _ _ _ | .own _ _ _ _ | .emp => K d .emp
    | _ => False
  | .ext d x i, K => ∃ vs, ev E x = .tup vs ∧ ∃ y, vs[i]? = some y ∧ K d y
  | .fld d x f, K => ∃ fs, ev E x = .agg fs ∧ ∃ y, fs[f]? = some y ∧ y.isAgg = false ∧ K d y
  | .bld d xs, K => (∀ x ∈ xs.map (ev E), x.isAgg = false ∧ x.sz = 1) ∧ K d (.agg (xs.map (ev E)))
  | .conv d k x, K => ∃ j n, ev E x = .int j n ∧ K d (.int k (k.wrap n))
  | .mx d gt x y, K => ∃ k a b, ev E x = .int k a ∧ ev E y = .int k b ∧ K d (.int k (if gt = true then (if b > a then b else a) else (if b < a then b else a)))
  | .mkf d f caps, K => (∀ x ∈ caps.map (ev E), x.isAgg = false ∧ x.sz = 1) ∧ K d (.fn f (caps.map (ev E)))
  | .nilck d x, K => match ev E x with
    | .lptr y => K d (.lptr y)
    | .optr d' b s i f => K d (.optr d' b s i f)
    | .fn f c => K d (.fn f c)
    | _ => False
  | .isnil d ne x, K => match ev E x with
    | .emp => ∀ b, K d (.bool b)
    | .lsl none _ [] => ∀ b, K d (.bool b)
    | .lsl _ _ _ => K d (.bool ne)
    | .own _ _ _ _ => K d (.bool ne)
    | _ => False
  | .neg d x, K => ∃ k n, ev E x = .int k n ∧ K d (.int k (k.wrap (-n)))
  | .b2s d x, K => match ev E x with
    | .own d' b s len => ∃ k, H d' = some k ∧ k.b = b ∧ k.s = s ∧ s = 1 ∧ len ≤ k.xs.length ∧ ∃ ns, u8s (k.xs.take len) = some ns ∧ K d (.str (bytesOf ns))
    | _ => False
  | _, _ => False

/-! ### own slices made firm; what a callee is handed -/
def sol1 (H : Hp) : AV → (AV → Hp → Prop) → Prop
  | .own d b s len, K => ∃ k, H d = some k ∧ k.b = b ∧ k.s = s ∧ len ≤ k.xs.length ∧ K (.lsl (some (b, s)) len k.xs) (updH H d none)
  | .optr .., _ => False
  | .fn .., _ => False
  | .tup _, _ => False
  | .agg _, _ => False
  | .undef, _ => False
  | .old _ _, _ => False
  | v, K => K v H
def sols (H : Hp) : List AV → (List AV → Hp → Prop) → Prop
  | [], K => K [] H
  | v :: vs, K => sol1 H v fun v' H' => sols H' vs fun vs' H'' => K (v' :: vs') H''
def sol (H : Hp) : AV → (AV → Hp → Prop) → Prop
  | .agg fs, K => sols H fs fun fs' H' => K (.agg fs') H'
  | v, K => sol1 H v K
def solE (H : Hp) : List AV → (List AV → Hp → Prop) → Prop
  | [], K => K [] H
  | v :: vs, K => sol H v fun v' H' => solE H' vs fun vs' H'' => K (v' :: vs') H''

/-- a plain value as a callee reads it; the keys of the own blocks that it reads are gathered -/
def rd1 (fl : Bool) (H : Hp) : AV → (AV → List Nat → Prop) → Prop
  | .own d b s len, K => ∃ k, H d = some k ∧ k.b = b ∧ k.s = s ∧ len ≤ k.xs.length ∧ K (.lsl none len (if fl = true then k.xs else k.xs.take len)) [d]
  | .lsl _ len xs, K => K (.lsl none len (if fl = true then xs else xs.take len)) []
  | .emp, K => K (.lsl none 0 []) []
  | .bool b, K => K (.bool b) []
  | .int k n, K => K (.int k n) []
  | .str s, K => K (.str s) []
  | .lptr x, K => K (.lptr x) []
  | .fn f [], K => K (.fn f []) []
  | _, _ => False
def rds (fl : Bool) (H : Hp) : List AV → (List AV → List Nat → Prop) → Prop
  | [], K => K [] []
  | v :: vs, K => rd1 fl H v fun v' ks => rds fl H vs fun vs' ks' => K (v' :: vs') (ks ++ ks')
def rd2 (fl : Bool) (H : Hp) : AV → (AV → List Nat → Prop) → Prop
  | .agg fs, K => rds fl H fs fun fs' ks => K (.agg fs') ks
  | .optr d b s i none, K => ∃ k, H d = some k ∧ k.b = b ∧ k.s = s ∧ ∃ y, k.xs[i]? = some y ∧ y.sz = s ∧
      (match y with
        | .agg fs => rds fl H fs fun fs' ks => K (.lptr (.agg fs')) (d :: ks)
        | y => rd1 fl H y fun y' ks => K (.lptr y') (d :: ks))
  | v, K => rd1 fl H v K
def rds2 (fl : Bool) (H : Hp) : List AV → (List AV → List Nat → Prop) → Prop
  | [], K => K [] []
  | v :: vs, K => rd2 fl H v fun v' ks => rds2 fl H vs fun vs' ks' => K (v' :: vs') (ks ++ ks')
def rd3 (fl : Bool) (H : Hp) : AV → (AV → List Nat → Prop) → Prop
  | .fn f cap, K => rds2 fl H cap fun cap' ks => K (.fn f cap') ks
  | .old _ x, K => rd2 fl H x K
  | v, K => rd2 fl H v K
def rdA (fl : Bool) (H : Hp) : List AV → (List AV → List Nat → Prop) → Prop
  | [], K => K [] []
  | v :: vs, K => rd3 fl H v fun v' ks => rdA fl H vs fun vs' ks' => K (v' :: vs') (ks ++ ks')

def frz (H : Hp) : List Nat → Hp
  | [] => H
  | d :: ds => match H d with
    | some k => updH (frz H ds) d (some { k with fz := true })
    | none => frz H ds

/-- nothing inside is a row of block b; told by the marks -/
def avoid1 (b : Nat) : AV → Prop
  | .bool _ | .int _ _ | .str _ | .emp => True
  | .lsl t _ xs => (∀ b' s, t = some (b', s) → b' ≠ b) ∧ (xs = [] ∨ t.isSome = true ∧ ∀ x ∈ xs, x.scal = true ∧ x.sz = 1)
  | _ => False
def avoid (b : Nat) : AV → Prop
  | .agg fs => ∀ x ∈ fs, avoid1 b x
  | v => avoid1 b v

/-- The law of a call, as this machine sees it: P's function f, handed these values, gives a result of which R tells (between which blocks, and what it reads as). -/
abbrev Law := List AV → (Nat → Nat → AV → Prop) → Prop
/-- The law of a call that is handed blocks to write. -/
abbrev LawM := List AV → Hp → (Nat → Nat → AV → Hp → Prop) → Prop
structure Laws where
  l : FuncId → Law
  m : FuncId → LawM
  /-- steps of the proof alone: the state told in other words -/
  g : Env → Hp → Nat → Env → Hp → Prop
def givenH (G : Nat → Bool) (H : Hp) : Hp := fun d => if G d = true then H d else none
def backH (G : Nat → Bool) (H H' : Hp) : Hp := fun d => if G d = true then H' d else H d

def impv (imp : Bool) (d lo : Nat) (E : Env) (H : Hp) (r : AV) (K : Env → Hp → Prop) : Prop :=
  match imp, r with
  | true, .lsl (some (b, s)) len xs => len = xs.length ∧ 0 < s ∧ lo ≤ b ∧ (∀ x ∈ xs, avoid b x) ∧ K (upd E d (.own d b s len)) (updH H d (some ⟨b, s, xs, false, true, false⟩))
  | true, .tup (.lsl (some (b, s)) len xs :: rest) => len = xs.length ∧ 0 < s ∧ lo ≤ b ∧ (∀ x ∈ xs, avoid b x) ∧ (∀ x ∈ rest, x.scal = true ∧ x.isAgg = false) ∧ K (upd E d (.tup (.own d b s len :: rest))) (updH H d (some ⟨b, s, xs, false, true, false⟩))
  | _, r => K (upd E d r) H

/-- What an append's second operand brings. -/
def srcOf (E : Env) (H : Hp) (y : Opd) (C : List AV → Prop) : Prop :=
  match ev E y with
  | .lsl _ m ys => m ≤ ys.length ∧ C (ys.take m)
  | .emp => C []
  | .own d' b s' m => ∃ k, H d' = some k ∧ k.b = b ∧ k.s = s' ∧ m ≤ k.xs.length ∧ C (k.xs.take m)
  | _ => False

/-- a firm list's elements -/
def srcF : AV → Option (List AV)
  | .lsl _ m ys => if m ≤ ys.length then some (ys.take m) else none
  | .emp => some []
  | _ => none
/-- An operation that makes or writes memory, or calls. -/
def va (L : Laws) (E : Env) (H : Hp) (n : Nat) : VOp → (Env → Hp → Nat → Prop) → Prop
  | .alc d s z, K => z.sz = s ∧ ∀ b, n ≤ b → K (upd E d (.optr d b s 0 none)) (updH H d (some ⟨b, s, [z], false, false, false⟩)) (b + 1)
  | .box d s x, K => (ev E x).sz = s ∧ 0 < s ∧ ∀ b, n ≤ b → K (upd E d (.optr d b s 0 none)) (updH H d (some ⟨b, s, [ev E x], false, false, false⟩)) (b + 1)
  | .mks d s m z bytes, K => ∃ k l, ev E m = .int k l ∧ 0 ≤ l ∧ l * bytes ≤ 140737488355328 ∧ l ≤ 140737488355328 ∧
      ∃ kk : Nat → Nat, ∀ b, n ≤ b → K (upd E d (.own (kk b) b s l.toNat)) (updH H (kk b) (some ⟨b, s, List.replicate l.toNat z, false, true, true⟩)) (b + 1)
  | .bls d s xs kp, K => if kp = true then (∀ y ∈ xs.map (ev E), y.sz = s) ∧
      ∀ b, n ≤ b → K (upd E d (.own d b s xs.length)) (updH H d (some ⟨b, s, xs.map (ev E), false, false, true⟩)) (b + 1)
    else solE H (xs.map (ev E)) fun ys H' => (∀ y ∈ ys, y.sz = s) ∧
      ∀ b, n ≤ b → K (upd E d (.own d b s ys.length)) (updH H' d (some ⟨b, s, ys, false, true, true⟩)) (b + 1)
  | .st x v sz, K => match ev E x with
    | .optr d b s i f => (f.isSome = true → sz = none) ∧ (match sz with | none => (ev E v).isAgg = false ∧ (ev E v).sz = 1 | some m => ∃ fs, ev E v = .agg fs ∧ fs.length = m) ∧
      ∃ k0, H d = some k0 ∧ (if k0.row = true then sol H (ev E v) else fun C => C (ev E v) H) fun v' H' =>
      ∃ k, H' d = some k ∧ k.b = b ∧ k.s = s ∧ k.fz = false ∧ ∃ y, k.xs[i]? = some y ∧
      (match f with
        | none => v'.sz = s ∧ K E (updH H' d (some { k with xs := k.xs.set i v' })) n
        | some j => ∃ fs, y = .agg fs ∧ j < fs.length ∧ fs.length = s ∧ K E (updH H' d (some { k with xs := k.xs.set i (.agg (fs.set j v')) })) n)
    | _ => False
  | .app d s x y bytes fr kp, K => srcOf E H y fun ys => (∀ z ∈ ys, z.sz = s) ∧
    match ev E x with
      | .emp => (ys = [] → K (upd E d .emp) H n) ∧ (ys ≠ [] → ys.length * bytes ≤ 140737488355328 ∧ ys.length ≤ 140737488355328 ∧
          ∀ b n', n ≤ b → b < n' → K (upd E d (.own d b s ys.length)) (updH H d (some ⟨b, s, ys, false, !kp, false⟩)) n')
      | .own d' b s' len => ∃ k, H d' = some k ∧ k.b = b ∧ k.s = s ∧ s' = s ∧ k.fz = false ∧ (fr = true → k.ex = true) ∧ len = k.xs.length ∧ (len + ys.length) * bytes ≤ 140737488355328 ∧ len + ys.length ≤ 140737488355328 ∧
          ∀ b' n', n ≤ n' → (b' = b ∨ n ≤ b' ∧ b' < n') → K (upd E d (.own d' b' s (len + ys.length))) (updH H d' (some ⟨b', s, k.xs ++ ys, false, k.row, false⟩)) n'
      | _ => False
  | .call d f xs imp fl, K => ∃ g caps, ev E f = .fn g caps ∧ rdA fl H (xs.map (ev E) ++ caps) fun args ks =>
      ∃ R, L.l g args R ∧ ∀ lo hi r, n ≤ lo → lo ≤ hi → R lo hi r →
        (if r.scal = true then K (upd E d r) H hi else impv imp d lo E (frz H ks) r fun E' H' => K E' H' hi)
  | .uend, K => ∀ n', n ≤ n' → (∀ q k, H q = some k → k.b < n') → K E H n'
  | .uem d _, K => H d = none ∧ K (upd E d .emp) H n
  | .ucl d s x y bytes, K => H d = none ∧ ev E x = .emp ∧ ∃ ys, srcF (ev E y) = some ys ∧ (∀ z ∈ ys, z.sz = s) ∧ ys.length * bytes ≤ 140737488355328 ∧ ys.length ≤ 140737488355328 ∧
      (ys = [] → K (upd E d .emp) H n) ∧ (ys ≠ [] → ∀ b, n ≤ b → (∀ q k, H q = some k → k.b ≠ b) → K (upd E d (.own d b s ys.length)) (updH H d (some ⟨b, s, ys, false, true, false⟩)) n)
  | .ualc d s z nn, K => z.sz = s ∧ (nn = true → H d = none) ∧ ∀ b, (∀ q k, H q = some k → k.b ≠ b) → K (upd E d (.optr d b s 0 none)) (updH H d (some ⟨b, s, [z], false, false, false⟩)) n
  | .ucall d f xs, K => ∃ g caps, ev E f = .fn g caps ∧ rdA false (fun _ => none) (xs.map (ev E) ++ caps) fun args _ =>
      ∃ R, L.l g args R ∧ ∀ lo hi r, n ≤ lo → lo ≤ hi → R lo hi r → K (upd E d r) H hi
  | .ubld d xs, K => (∀ x ∈ xs.map (ev E), x.isAgg = false ∧ x.sz = 1) ∧ K (upd E d (.agg (xs.map (ev E)))) H n
  | .callm d f xs, K => ∃ g caps, ev E f = .fn g caps ∧ ∃ (G : Nat → Bool) (R : Nat → Nat → AV → Hp → Prop), L.m g (xs.map (ev E) ++ caps) (givenH G H) R ∧ (∀ d k, G d = true → H d = some k → k.fz = false) ∧
      ∀ lo hi r H', n ≤ lo → lo ≤ hi → R lo hi r H' → (∀ d k, H' d = some k → G d = true) ∧ K (upd E d r) (backH G H H') hi
  | o, K => vq E H o fun d v => K (upd E d v) H n

def vgop (L : Laws) (E : Env) (H : Hp) (n : Nat) (o : GOp) (dst : Option Nat) (K : Env → Hp → Nat → Prop) : Prop :=
  match o.g with
  | none => va L E H n o.o K
  | some (t, want) => match E t with
    | .bool b => if b = want then va L E H n o.o K else match dst with | some d => K (upd E d (.tup [])) H n | none => K E H n
    | .tup [] => match dst with | some d => K (upd E d (.tup [])) H n | none => K E H n
    | _ => False

def VOp.dst : VOp → Option Nat
  | .mv d _ | .bin d _ _ _ | .not d _ | .beq d _ _ _ | .pick d _ _ _ | .len d _ _ | .idx d _ _ | .idxA d _ _ _ | .fldA d _ _ | .ld d _ _ | .slc d _ _ _ _ | .slc0 d _ | .ext d _ _ | .fld d _ _
  | .bld d _ | .conv d _ _ | .mx d _ _ _ | .mkf d _ _ | .nilck d _ | .neg d _ | .isnil d _ _ | .uem d _ | .ucl d _ _ _ _ | .ualc d _ _ _ | .ucall d _ _ | .ubld d _ | .alc d _ _ | .box d _ _ | .mks d _ _ _ _ | .bls d _ _ _ | .app d _ _ _ _ _ _ | .b2s d _ | .call d _ _ _ _ | .callm d _ _ => some d
  | .st _ _ _ => none
  | .uend => none

/-- a quiet operation that reads memory -/
def VOp.mem : VOp → Bool
  | .ld _ _ _ => true
  | .b2s _ _ => true
  | _ => false

def vops (L : Laws) : List GOp → (Env → Hp → Nat → Prop) → Env → Hp → Nat → Prop
  | [], K, E, H, n => K E H n
  | o :: os, K, E, H, n => vgop L E H n o o.o.dst fun E' H' n' => vops L os K E' H' n'

abbrev Post := VX → Env → Hp → Nat → Prop

def Post.then (Q : Post) (K : Env → Hp → Nat → Prop) : Post
  | .normal, E, H, n => K E H n
  | e, E, H, n => Q e E H n
def Post.inBlock (Q : Post) (id : Nat) : Post
  | .exit id', E, H, n => if id' = id then Q .normal E H n else Q (.exit id') E H n
  | e, E, H, n => Q e E H n

def rounds (body : Post → Env → Hp → Nat → Prop) (Q : Post) : Nat → Env → Hp → Nat → Prop
  | 0, _, _, _ => False
  | k + 1, E, H, n => body (Q.then fun E' H' n' => rounds body Q k E' H' n') E H n

def vwp (L : Laws) : VC → Post → Env → Hp → Nat → Prop
  | .skip, Q, E, H, n => Q .normal E H n
  | .reg ops _, Q, E, H, n => vops L ops (Q .normal) E H n
  | .seq a b, Q, E, H, n => vwp L a (Q.then fun E' H' n' => vwp L b Q E' H' n') E H n
  | .cond c a b, Q, E, H, n => ∃ t, ev E c = .bool t ∧ (if t = true then vwp L a Q E H n else vwp L b Q E H n)
  | .block id c, Q, E, H, n => vwp L c (Q.inBlock id) E H n
  | .loop c, Q, E, H, n => ∃ k, rounds (vwp L c) Q k E H n
  | .exit id, Q, E, H, n => Q (.exit id) E H n
  | .ret, Q, E, H, n => Q .ret E H n
  | .ghost c, Q, E, H, n => ∃ E' H', L.g E H n E' H' ∧ vwp L c Q E' H' n
  | .stuck, _, _, _, _ => False

inductive RVr where
  | tmp (t : Nat)
  | cell (t : Nat) (sz : Option Nat)

structure VFn where
  np : Nat
  nt : Nat
  res : List RVr
  body : VC

def getR (E : Env) (H : Hp) : List RVr → (List AV → Prop) → Prop
  | [], K => K []
  | .tmp t :: rs, K => getR E H rs fun vs => K (E t :: vs)
  | .cell t sz :: rs, K => vq E H (.ld 0 (.t t) sz) fun _ v => getR E H rs fun vs => K (v :: vs)

def mkR : List AV → AV
  | [v] => v
  | vs => .tup vs

def fnPost (rs : List RVr) (lo : Nat) (R : Nat → Nat → AV → Prop) : Post
  | .normal, E, H, n => getR E H rs fun vs => solE H vs fun vs' _ => R lo n (mkR vs')
  | .ret, E, H, n => getR E H rs fun vs => solE H vs fun vs' _ => R lo n (mkR vs')
  | _, _, _, _ => False

def fnPostM (rs : List RVr) (lo : Nat) (R : Nat → Nat → AV → Hp → Prop) : Post
  | .normal, E, H, n => getR E H rs fun vs => (∀ v ∈ vs, ∀ us, v ≠ .tup us) ∧ R lo n (mkR vs) H
  | .ret, E, H, n => getR E H rs fun vs => (∀ v ∈ vs, ∀ us, v ≠ .tup us) ∧ R lo n (mkR vs) H
  | _, _, _, _ => False

def ini (args : List AV) : Env := fun t => args.getD t .undef

/-- a list or a struct that was there before the call -/
def AV.older (lo : Nat) : AV → AV
  | .lsl t len xs => .old lo (.lsl t len xs)
  | .agg fs => .old lo (.agg fs)
  | x => x

end Go.AVM

/- How the abstract machine's values stand for the real machine's: the relation, how it lasts while memory grows, and what the checker asks of an operation. -/
namespace Go.AVM
set_option linter.unusedSimpArgs false
open Go.RowKit
set_option linter.unusedVariables false

/-- What the cells cs hold is what x says, in the world w, all rows inside lying in blocks of T. -/
inductive RC (w : World) (T : Nat → Prop) : AV → List Value → Prop
  | undef (cs : List Value) (h : ∀ u ∈ cs, u.oneCell' = true) : RC w T .undef cs
  | bool (b : Bool) : RC w T (.bool b) [.bool b]
  | int (k : IntKind) (n : Int) : RC w T (.int k n) [.int k n]
  | str (s : ByteArray) : RC w T (.str s) [.string s]
  | agg (fs : List AV) (cs : List Value) (hl : fs.length = cs.length) (hn : ∀ f ∈ fs, f.isAgg = false) (h : ∀ (i : Nat) (f : AV) (c : Value), fs[i]? = some f → cs[i]? = some c → RC w T f [c]) : RC w T (.agg fs) cs
  | emp (a : Option Addr) : RC w T .emp [.slice a 0 0]
  | lsl (t : Option (Nat × Nat)) (len cap s : Nat) (xs : List AV) (a : Option Addr) (cells : Nat → List Value) (h1 : len ≤ cap) (h2 : len ≤ xs.length) (h3 : xs.length ≤ cap) (hm : cap ≤ maxLen)
      (hne : xs ≠ [] → ∃ (g off : Nat), a = some ⟨g, off, none⟩ ∧ T g ∧ ∀ (i : Nat) (x : AV), xs[i]? = some x → (cells i).length = s ∧ ∀ (j : Nat) (v : Value), (cells i)[j]? = some v → w.cell? ⟨g, off + i * s + j, none⟩ = some v)
      (ht : ∀ (b s' : Nat), t = some (b, s') → s' = s ∧ T b ∧ a = some ⟨b, 0, none⟩ ∧ ∃ (c : Array Value) (e : TypeId), w.heap[b]? = some (.cells c e (0, 0)) ∧ c.size = cap * s)
      (h : ∀ (i : Nat) (x : AV), xs[i]? = some x → RC w T x (cells i)) : RC w T (.lsl t len xs) [.slice a len cap]
  | own (d b s len cap : Nat) (hl : len ≤ cap) (hm : cap ≤ maxLen) (h : ∃ (c : Array Value) (e : TypeId), w.heap[b]? = some (.cells c e (0, 0)) ∧ c.size = cap * s) : RC w T (.own d b s len) [.slice (some ⟨b, 0, none⟩) len cap]
  | lptr (x : AV) (cs : List Value) (g off : Nat) (hT : T g) (hs : cs.length = x.sz) (hc : ∀ (j : Nat) (v : Value), cs[j]? = some v → w.cell? ⟨g, off + j, none⟩ = some v) (h : RC w T x cs) : RC w T (.lptr x) [.pointer (some ⟨g, off, none⟩)]
  | optr (d b s i : Nat) (f : Option Nat) : RC w T (.optr d b s i f) [.pointer (some ⟨b, i * s + f.getD 0, none⟩)]
  | fn (f : FuncId) (cap : List AV) (cs : List Value) (hl : cap.length = cs.length) (hn : ∀ f ∈ cap, f.isAgg = false) (h : ∀ (i : Nat) (x : AV) (c : Value), cap[i]? = some x → cs[i]? = some c → RC w T x [c]) : RC w T (.fn f cap) [.func (.func f) #[] cs.toArray]

theorem RC.one {w : World} {T : Nat → Prop} {x : AV} {cs : List Value} (h : RC w T x cs) : ∀ u ∈ cs, u.oneCell' = true := by
  induction h with
  | undef cs h => exact h
  | agg fs cs hl hn h ih =>
    intro u hu
    obtain ⟨i, hi⟩ := List.mem_iff_getElem?.1 hu
    have hlt : i < fs.length := by
      rw [hl]
      exact (List.getElem?_eq_some_iff.1 hi).1
    exact ih i fs[i] u (List.getElem?_eq_getElem hlt) hi u (List.mem_singleton.2 rfl)
  | _ => intro u hu; rw [List.mem_singleton.1 hu]; rfl

theorem RC.len {w : World} {T : Nat → Prop} {x : AV} {cs : List Value} (h : RC w T x cs) (hz : x.sz ≠ 0) : cs.length = x.sz := by
  cases h <;> simp_all [AV.sz]

theorem RC.len1 {w : World} {T : Nat → Prop} {x : AV} {cs : List Value} (h : RC w T x cs) (hz : x.sz = 1) : ∃ u, cs = [u] ∧ u.oneCell' = true ∧ (∀ c, u ≠ .agg c) := by
  have hl := h.len (by omega)
  rw [hz] at hl
  obtain ⟨u, rfl⟩ := List.length_eq_one_iff.1 hl
  refine ⟨u, rfl, h.one u (List.mem_singleton.2 rfl), ?_⟩
  rintro c rfl
  have := h.one _ (List.mem_singleton.2 rfl)
  simp [Value.oneCell'] at this

/-- The world has gone on: T's blocks are as they were, every row of cells has the length that it had. -/
structure On (w w' : World) (T T' : Nat → Prop) : Prop where
  keep : ∀ g, T g → T' g ∧ w'.heap[g]? = w.heap[g]?
  shape : ∀ (g : Nat) (c : Array Value) (e : TypeId), w.heap[g]? = some (.cells c e (0, 0)) → ∃ c' : Array Value, w'.heap[g]? = some (.cells c' e (0, 0)) ∧ c'.size = c.size

theorem cell_of {w w' : World} {g o : Nat} (h : w'.heap[g]? = w.heap[g]?) : w'.cell? ⟨g, o, none⟩ = w.cell? ⟨g, o, none⟩ := World.cell?_of_block (w := w) h

theorem RC.mono {w w' : World} {T T' : Nat → Prop} (hon : On w w' T T') {x : AV} {cs : List Value} (h : RC w T x cs) : RC w' T' x cs := by
  induction h with
  | undef cs h => exact .undef cs h
  | bool b => exact .bool b
  | int k n => exact .int k n
  | str s => exact .str s
  | agg fs cs hl hn h ih => exact .agg fs cs hl hn ih
  | emp a => exact .emp a
  | lsl t len cap s xs a cells h1 h2 h3 hm hne ht h ih =>
    refine .lsl t len cap s xs a cells h1 h2 h3 hm (fun hx => ?_) (fun b s' hb => ?_) ih
    · obtain ⟨g, off, ha, hT, hc⟩ := hne hx
      obtain ⟨hT', hh⟩ := hon.keep g hT
      refine ⟨g, off, ha, hT', fun i x hi => ⟨(hc i x hi).1, fun j v hj => ?_⟩⟩
      rw [cell_of hh]
      exact (hc i x hi).2 j v hj
    · obtain ⟨e1, hT, ha, c, e, hh, hs⟩ := ht b s' hb
      obtain ⟨hT', hh'⟩ := hon.keep b hT
      exact ⟨e1, hT', ha, c, e, hh'.trans hh, hs⟩
  | own d b s len cap hl hm h =>
    obtain ⟨c, e, hh, hs⟩ := h
    obtain ⟨c', hh', hs'⟩ := hon.shape b c e hh
    exact .own d b s len cap hl hm ⟨c', e, hh', hs'.trans hs⟩
  | lptr x cs g off hT hs hc h ih =>
    obtain ⟨hT', hh⟩ := hon.keep g hT
    refine .lptr x cs g off hT' hs (fun j v hj => ?_) ih
    rw [cell_of hh]
    exact hc j v hj
  | optr d b s i f => exact .optr d b s i f
  | fn f cap cs hl hn h ih => exact .fn f cap cs hl hn ih

theorem On.of_below {w w' : World} {T : Nat → Prop} (hT : ∀ g, T g → g < w.heap.size) (hb : Below w.heap.size w w') : On w w' T T :=
  ⟨fun g hg => ⟨hg, hb.block g (hT g hg)⟩, fun g c e hg => ⟨c, (hb.block g (Array.getElem?_eq_some_iff.1 hg).1).trans hg, rfl⟩⟩

/-- What a temporary holds is what x says. -/
def RVp (w : World) (T : Nat → Prop) : AV → Value → Prop
  | .undef, _ => True
  | .agg fs, v => ∃ cs, v = .agg cs ∧ RC w T (.agg fs) cs.toList
  | .tup _, _ => False
  | .old _ _, _ => False
  | x, v => RC w T x [v]
def RV0 (w : World) (T : Nat → Prop) : AV → Value → Prop
  | .old B x, v => RVp w (fun g => T g ∧ g < B) x v
  | .undef, _ => True
  | .agg fs, v => ∃ cs, v = .agg cs ∧ RC w T (.agg fs) cs.toList
  | .tup _, _ => False
  | x, v => RC w T x [v]
def RV (w : World) (T : Nat → Prop) : AV → Value → Prop
  | .tup vs, v => ∃ cs : Array Value, v = .tuple cs ∧ cs.size = vs.length ∧ ∀ (i : Nat) (x : AV), vs[i]? = some x → ∃ u, cs[i]? = some u ∧ RV0 w T x u
  | x, v => RV0 w T x v

theorem RVp.rv {w : World} {T : Nat → Prop} {x : AV} {v : Value} (h : RVp w T x v) : RV w T x v := by
  cases x <;> first | exact h | exact h.elim
theorem RVp.mono {w w' : World} {T T' : Nat → Prop} (hon : On w w' T T') {x : AV} {v : Value} (h : RVp w T x v) : RVp w' T' x v := by
  cases x <;> simp only [RVp] at h ⊢ <;> first | exact h.mono hon | skip
  obtain ⟨cs, e, h⟩ := h
  exact ⟨cs, e, h.mono hon⟩
theorem On.cut {w w' : World} {T T' : Nat → Prop} (hon : On w w' T T') (B : Nat) : On w w' (fun g => T g ∧ g < B) (fun g => T' g ∧ g < B) :=
  ⟨fun g hg => ⟨⟨(hon.keep g hg.1).1, hg.2⟩, (hon.keep g hg.1).2⟩, hon.shape⟩
theorem RV0.mono {w w' : World} {T T' : Nat → Prop} (hon : On w w' T T') {x : AV} {v : Value} (h : RV0 w T x v) : RV0 w' T' x v := by
  cases x <;> simp only [RV0] at h ⊢ <;> first | exact h.mono hon | skip
  · obtain ⟨cs, e, h⟩ := h
    exact ⟨cs, e, h.mono hon⟩
  · exact h.mono (hon.cut _)
theorem RV.mono {w w' : World} {T T' : Nat → Prop} (hon : On w w' T T') {x : AV} {v : Value} (h : RV w T x v) : RV w' T' x v := by
  cases x <;> simp only [RV] at h ⊢ <;> first | exact h.mono hon | skip
  obtain ⟨cs, e, hs, h⟩ := h
  exact ⟨cs, e, hs, fun i x hi => let ⟨u, hu, hr⟩ := h i x hi; ⟨u, hu, hr.mono hon⟩⟩

theorem RV.cell {w : World} {T : Nat → Prop} {x : AV} {v : Value} (h : RV w T x v) (ha : x.isAgg = false) (hz : x.sz ≠ 0) : RC w T x [v] := by
  cases x <;> simp_all [RV, RV0, AV.isAgg, AV.sz]
theorem RC.rv {w : World} {T : Nat → Prop} {x : AV} {v : Value} (h : RC w T x [v]) (ha : x.isAgg = false) : RV w T x v := by
  cases x <;> first | exact h | trivial | (simp [AV.isAgg] at ha) | cases h

/-- the cells of a value that stands in a temporary -/
theorem RV.cells {w : World} {T : Nat → Prop} {x : AV} {v : Value} (h : RV w T x v) (hz : x.sz ≠ 0) : RC w T x v.cells.toList ∧ v.cells.size = x.sz := by
  cases ha : x.isAgg with
  | true =>
    cases x <;> simp_all [AV.isAgg]
    obtain ⟨cs, rfl, h⟩ := h
    exact ⟨h, by have := h.len hz; simpa [Value.cells] using this⟩
  | false =>
    have hc := h.cell ha hz
    have hl := hc.len hz
    obtain ⟨u, hu, h1, h2⟩ := hc.len1 (by simpa using hl.symm)
    obtain rfl : v = u := by simpa using hu
    have : v.cells = #[v] := by cases v <;> simp_all [Value.cells]
    rw [this]
    exact ⟨hc, by simpa using hl⟩

/-! ### the blocks of the call's own -/
/-- what may be written: what was given for it, and what is new -/
structure Sg where
  s : Nat → Prop
  g : Nat → Prop
def Mine (w0 : World) (S : Sg) (b : Nat) : Prop := S.g b ∨ w0.heap.size ≤ b

structure BOK (w : World) (T : Nat → Prop) (B : Nat → Prop) (k : Blk) : Prop where
  low : B k.b
  pos : 0 < k.s
  has : ∃ (c : Array Value) (e : TypeId), w.heap[k.b]? = some (.cells c e (0, 0)) ∧ k.xs.length * k.s ≤ c.size ∧ (k.ex = true → c.size = k.xs.length * k.s) ∧ ∀ (i : Nat) (x : AV), k.xs[i]? = some x → ∃ cs : List Value, cs.length = k.s ∧ RC w T x cs ∧ ∀ (j : Nat) (v : Value), cs[j]? = some v → c[i * k.s + j]? = some v

/-- The blocks that stay as they are: what was given at the call's begin, what the call has made, but for what it may still write. -/
def Stb (w0 : World) (S : Sg) (H : Hp) (w : World) (b : Nat) : Prop :=
  (S.s b ∨ Mine w0 S b) ∧ b < w.heap.size ∧ ∀ d k, H d = some k → k.fz = false → k.b ≠ b

/-- How far the call's world may have gone. -/
structure Bel (w0 : World) (S : Sg) (w : World) : Prop where
  os : w.os = w0.os
  tape : w.tape = w0.tape
  output : w.output = w0.output
  size : w0.heap.size ≤ w.heap.size
  block : ∀ k, k < w0.heap.size → ¬ S.g k → w.heap[k]? = w0.heap[k]?
  shape : ∀ (g : Nat) (c : Array Value) (e : TypeId), w0.heap[g]? = some (.cells c e (0, 0)) → ∃ c' : Array Value, w.heap[g]? = some (.cells c' e (0, 0)) ∧ c'.size = c.size

theorem Bel.refl (w : World) (S : Sg) : Bel w S w := ⟨rfl, rfl, rfl, Nat.le_refl _, fun _ _ _ => rfl, fun _ c _ h => ⟨c, h, rfl⟩⟩
theorem Bel.on {w0 w w' : World} {S : Sg} (h : Bel w0 S w) (hb : Below w.heap.size w w') : Bel w0 S w' :=
  ⟨hb.os.trans h.os, hb.tape.trans h.tape, hb.output.trans h.output, Nat.le_trans h.size hb.size,
    fun k hk hn => (hb.block k (Nat.lt_of_lt_of_le hk h.size)).trans (h.block k hk hn),
    fun g c e hg => by
      obtain ⟨c', h1, h2⟩ := h.shape g c e hg
      exact ⟨c', (hb.block g (Array.getElem?_eq_some_iff.1 h1).1).trans h1, h2⟩⟩
/-- one row of its own is written -/
theorem Bel.row {w0 w w' : World} {S : Sg} (h : Bel w0 S w) {b : Nat} {c c' : Array Value} {e : TypeId} (hm : Mine w0 S b) (h1 : w'.os = w.os) (h2 : w'.tape = w.tape) (h3 : w'.output = w.output) (h4 : w.heap.size ≤ w'.heap.size)
    (hc : w.heap[b]? = some (.cells c e (0, 0))) (hc' : w'.heap[b]? = some (.cells c' e (0, 0))) (hs : c'.size = c.size) (h5 : ∀ g, g < w.heap.size → g ≠ b → w'.heap[g]? = w.heap[g]?) : Bel w0 S w' := by
  refine ⟨h1.trans h.os, h2.trans h.tape, h3.trans h.output, Nat.le_trans h.size h4, fun k hk hn => ?_, fun g c1 e1 hg => ?_⟩
  · refine (h5 k (Nat.lt_of_lt_of_le hk h.size) ?_).trans (h.block k hk hn)
    rintro rfl
    rcases hm with hm | hm
    · exact hn hm
    · omega
  · obtain ⟨c2, g1, g2⟩ := h.shape g c1 e1 hg
    by_cases hgb : g = b
    · subst hgb
      rw [hc] at g1
      injection g1 with g1
      injection g1 with g1 g3 _
      subst g1 g3
      exact ⟨c', hc', hs.trans g2⟩
    · exact ⟨c2, (h5 g (Array.getElem?_eq_some_iff.1 g1).1 hgb).trans g1, g2⟩
theorem Bel.below {w0 w : World} {S : Nat → Prop} (h : Bel w0 ⟨S, fun _ => False⟩ w) : Below w0.heap.size w0 w :=
  ⟨h.os, h.tape, h.output, h.size, fun k hk => h.block k hk id⟩

structure SR (w0 : World) (S : Sg) (nt : Nat) (E : Env) (H : Hp) (n : Nat) (a : Act) (w : World) : Prop where
  defs : a.defers = []
  size : a.tmps.size = nt
  bel : Bel w0 S w
  nle : n ≤ w.heap.size
  nge : w0.heap.size ≤ n
  tm : ∀ t, t < nt → RV w (Stb w0 S H w) (E t) (a.tmps.getD t undef)
  blk : ∀ d k, H d = some k → BOK w (Stb w0 S H w) (Mine w0 S) k
  inj : ∀ d d' k k', H d = some k → H d' = some k' → k.b = k'.b → d = d'

theorem Stb.lt {w0 : World} {S : Sg} {H : Hp} {w : World} : ∀ b, Stb w0 S H w b → b < w.heap.size := fun _ h => h.2.1

end Go.AVM

/- What the checker asks of an operation, and that the quiet operations do on the real machine what the abstract one says. -/
namespace Go.AVM
set_option linter.unusedSimpArgs false
open Go.RowKit
set_option linter.unusedVariables false

def constV0 : Value → AV → Bool
  | .bool a, .bool b => a == b
  | .int k a, .int j b => decide (k = j) && decide (a = b)
  | .string a, .str b => decide (a.data.toList = b.data.toList)
  | .slice none 0 0, .emp => true
  | .pointer none, .undef => true
  | .nilFunc, .undef => true
  | .nilIface, .undef => true
  | _, _ => false
def constV : Value → AV → Bool
  | .agg cs, .agg fs => decide (cs.size = fs.length) && (fs.all fun f => !f.isAgg) && (cs.toList.zip fs).all fun p => constV0 p.1 p.2
  | v, x => constV0 v x

def mOpd (nt : Nat) : Operand → Opd → Bool
  | .tmp t, .t u => t == u && decide (t < nt)
  | .const v, .c x => constV v x
  | .func f, .c (.fn g []) => f == g
  | _, _ => false
def mOpds (nt : Nat) (xs : Array Operand) (ys : List Opd) : Bool := decide (xs.size = ys.length) && (xs.toList.zip ys).all fun p => mOpd nt p.1 p.2
def mOpdo (nt : Nat) : Option Operand → Option Opd → Bool
  | none, none => true
  | some x, some y => mOpd nt x y
  | _, _ => false

def elOf (P : Program) (t : TypeId) : Option TypeInfo := match P.underlying t with | some (.slice e) => P.info? e | _ => none
def isStr (P : Program) (t : TypeId) : Bool := match P.underlying t with | some .string => true | _ => false
def isSl (P : Program) (t : TypeId) : Bool := match P.underlying t with | some (.slice _) => true | _ => false
def aggT (P : Program) (t : TypeId) : Option Bool := match P.underlying t with | some (.struct _) | some (.array _ _) => some true | some _ => some false | none => none
def szT (P : Program) (t : TypeId) : Option Nat := (P.info? t).map (·.size)
def szOk (P : Program) (t : TypeId) : Option Nat → Bool
  | none => aggT P t == some false
  | some m => aggT P t == some true && szT P t == some m
def zeroOk (i : TypeInfo) (s : Nat) (z : AV) : Bool := i.size == s && decide (0 < s) && match i.zero with | some v => constV v z && v.cells.size == s | none => false

/-- the parts of a struct's literal, field by field -/
def partsOk (nt : Nat) (zero : List Value) (parts : List (Nat × Operand)) : Nat → List Opd → Bool
  | _, [] => true
  | i, x :: xs => (match parts.find? (·.1 == i) with
      | some p => mOpd nt p.2 x
      | none => match zero[i]?, x with | some z, .c y => constV0 z y && !y.isAgg | _, _ => false) && partsOk nt zero parts (i + 1) xs
def seqOk (nt : Nat) : Nat → List (Nat × Operand) → List Opd → Bool
  | _, [], [] => true
  | i, p :: ps, x :: xs => p.1 == i && mOpd nt p.2 x && seqOk nt (i + 1) ps xs
  | _, _, _ => false

def mOp1 (P : Program) (nt : Nat) : Op → VOp → Bool
  | .move x, .mv _ y | .assign x, .mv _ y => mOpd nt x y
  | .binOp op _ x y _, .bin _ op' x' y' => decide (op = op') && mOpd nt x x' && mOpd nt y y'
  | .unOp .not _ x, .not _ y => mOpd nt x y
  | .unOp .neg _ x, .neg _ y => mOpd nt x y
  | .convert t u x, .b2s _ x' => (match P.underlying t with | some (.slice e) => (match P.underlying e with | some (.int .u8) => true | _ => false) | _ => false) && isStr P u && mOpd nt x x'
  | .pick c x y, .pick _ c' x' y' => mOpd nt c c' && mOpd nt x x' && mOpd nt y y'
  | .call { callee := .builtin .len, args := args, argTypes := ts }, .len _ b y => match args.toList, ts.toList with
    | [x], [t] => mOpd nt x y && (if b then isStr P t else isSl P t)
    | _, _ => false
  | .index t x i, .idx _ x' i' => isStr P t && mOpd nt x x' && mOpd nt i i'
  | .indexAddr t x i, .idxA _ s x' i' => decide (0 < s) && (match elOf P t with | some ti => ti.size == s | none => false) && mOpd nt x x' && mOpd nt i i'
  | .fieldAddr t x f, .fldA _ x' f' => (match P.underlying t with
      | some (.struct fs) => (match fs[f]? with | some fd => fd.offset == f' && szT P fd.type == some 1 | none => false)
      | _ => false) && mOpd nt x x'
  | .load t x, .ld _ x' sz => szOk P t sz && mOpd nt x x'
  | .slice t x lo hi none, .slc _ s x' lo' hi' => (if s = 0 then isStr P t else (match elOf P t with | some ti => ti.size == s | none => false)) && mOpd nt x x' && mOpdo nt lo lo' && mOpdo nt hi hi'
  | .slice t x none (some (.const (.int _ i))) (some (.const (.int _ j))), .slc0 _ x' => decide (i = 0) && decide (j = 0) && (elOf P t).isSome && mOpd nt x x'
  | .extract x i, .ext _ x' i' => i == i' && mOpd nt x x'
  | .field t x f, .fld _ x' f' => (match P.underlying t with
      | some (.struct fs) => (match fs[f]? with | some fd => fd.offset == f' && aggT P fd.type == some false | none => false)
      | _ => false) && mOpd nt x x'
  | .build t parts, .bld _ xs => (match P.underlying t, P.info? t with
      | some (.struct fs), some ti => fs.size == xs.length && (fs.toList.zipIdx.all fun p => p.1.offset == p.2 && szT P p.1.type == some 1) &&
          (match ti.zero with | some (.agg zs) => zs.size == xs.length && partsOk nt zs.toList parts.toList 0 xs | _ => false)
      | _, _ => false) && (parts.toList.map (·.1)).Nodup && parts.toList.all (fun p => p.1 < xs.length)
  | .convert t u x, .conv _ k x' => (P.underlying t).isSome && (match P.underlying u with | some (.int j) => decide (j = k) | _ => false) && mOpd nt x x'
  | .call { callee := .builtin b, args := args, argTypes := _ }, .mx _ gt x' y' => (match b with | .max => gt | .min => !gt | _ => false) && (match args.toList with | [x, y] => mOpd nt x x' && mOpd nt y y' | _ => false)
  | .makeFunc (.func f) first caps, .mkf _ f' ys => f == f' && first.size == 0 && mOpds nt caps ys
  | .nilCheck x, .nilck _ y => mOpd nt x y
  | .binOp op t x y _, .beq _ neg x' y' => decide (op = if neg = true then .neq else .eql) && (match P.underlying t with | some .bool => true | _ => false) && mOpd nt x x' && mOpd nt y y'
  | .alloc e, .alc _ s z => (match P.info? e with | some ti => zeroOk ti s z | none => false)
  | .box _ x, .box _ _ y => mOpd nt x y
  | .makeSlice t n c, .mks _ s m z bytes => (match elOf P t with | some ti => ti.bytes == bytes && zeroOk ti s z | none => false) && mOpd nt n m && mOpd nt c m
  | .buildSlice t len parts, .bls _ s xs _ => (match elOf P t with | some ti => ti.zero.isSome && ti.size == s && decide (0 < s) && (match ti.zero with | some z => z.cells.size == s | none => false) | none => false) && len == xs.length && decide (len * s ≤ 16777216) && seqOk nt 0 parts.toList xs
  | .store t x v, .st x' v' sz => (match sz with | none => szT P t == some 1 | some m => szT P t == some m) && mOpd nt x x' && mOpd nt v v'
  | .call { callee := .builtin .append, args := args, argTypes := ts }, .app _ s x' y' bytes _ _ => (match args.toList, ts.toList with
      | [x, y], [t, t'] => t == t' && (match elOf P t with | some ti => ti.size == s && decide (0 < s) && ti.bytes == bytes && (match ti.zero with | some z => z.cells.size == s | none => false) | none => false) && mOpd nt x x' && mOpd nt y y'
      | _, _ => false)
  | .call { callee := .value f, args := args, argTypes := _ }, .call _ f' xs _ _ => mOpd nt f f' && mOpds nt args xs
  | .call { callee := .value f, args := args, argTypes := _ }, .callm _ f' xs => mOpd nt f f' && mOpds nt args xs
  | _, _ => false

/-- x is compared with nil -/
def mNil (P : Program) (nt : Nat) (ne : Bool) (x' : Opd) : Op → Bool
  | .binOp op t x y _ => decide (op = if ne = true then .neq else .eql) && isSl P t && mOpd nt x x' && (match y with | .const (.slice none 0 0) => true | _ => false)
  | _ => false
/-- the operation whose text an operation has -/
def VOp.base : VOp → VOp
  | .uem d s => .bls d s [] true
  | .ucl d s x y bytes => .app d s x y bytes true false
  | .ualc d s z _ => .alc d s z
  | .ucall d f xs => .call d f xs false false
  | .ubld d xs => .bld d xs
  | o => o
def mOp2 (P : Program) (nt : Nat) (op : Op) : VOp → Bool
  | .isnil _ ne x => mNil P nt ne x op
  | .uend => false
  | vo => mOp1 P nt op vo.base
def mOp (P : Program) (nt : Nat) (o : Oper) (vo : VOp) : Bool :=
  (match vo.dst with | some d => o.dst == some d && decide (d < nt) | none => o.dst == none) && mOp2 P nt o.op vo

/-! ### constants, operands -/
theorem constV0_ok {w : World} {T : Nat → Prop} {v : Value} {x : AV} (h : constV0 v x = true) : RC w T x [v] := by
  unfold constV0 at h
  split at h <;> first | (simp at h; done) | skip
  · simp at h; subst h; exact .bool _
  · simp at h; obtain ⟨rfl, rfl⟩ := h; exact .int _ _
  · rename_i a b
    have : a = b := by
      cases a; cases b
      simp only [decide_eq_true_eq] at h
      congr
      exact Array.ext' h
    subst this
    exact .str _
  · exact .emp _
  · exact .undef _ (by intro u hu; rw [List.mem_singleton.1 hu]; rfl)
  · exact .undef _ (by intro u hu; rw [List.mem_singleton.1 hu]; rfl)
  · exact .undef _ (by intro u hu; rw [List.mem_singleton.1 hu]; rfl)

theorem constV_cells {w : World} {T : Nat → Prop} {v : Value} {x : AV} (h : constV v x = true) : RC w T x v.cells.toList ∧ (x.isAgg = false → v.cells = #[v]) ∧ (x.isAgg = true → ∃ cs, v = .agg cs) := by
  unfold constV at h
  split at h
  · rename_i cs fs
    simp only [Bool.and_eq_true, decide_eq_true_eq, List.all_eq_true, Bool.not_eq_true'] at h
    obtain ⟨⟨hl, hn⟩, hz⟩ := h
    refine ⟨.agg fs _ (by simpa [Value.cells] using hl.symm) hn (fun i f c hf hc => ?_), by simp [AV.isAgg], fun _ => ⟨cs, rfl⟩⟩
    refine constV0_ok (hz (c, f) ?_)
    refine List.mem_iff_getElem?.2 ⟨i, ?_⟩
    rw [List.getElem?_zip_eq_some]
    exact ⟨hc, hf⟩
  · have hc := constV0_ok (w := w) (T := T) h
    have h1 : v.cells = #[v] := by
      unfold constV0 at h
      split at h <;> first | rfl | (simp at h; done)
    refine ⟨by rw [h1]; exact hc, fun _ => h1, fun ha => ?_⟩
    unfold constV0 at h
    split at h <;> simp_all [AV.isAgg]

theorem constV_rv {w : World} {T : Nat → Prop} {v : Value} {x : AV} (h : constV v x = true) : RV w T x v := by
  obtain ⟨hc, h1, h2⟩ := constV_cells (w := w) (T := T) h
  cases ha : x.isAgg with
  | false => rw [h1 ha] at hc; exact RC.rv (by simpa using hc) ha
  | true =>
    obtain ⟨cs, rfl⟩ := h2 ha
    cases x <;> simp_all [AV.isAgg]
    exact ⟨cs, rfl, hc⟩

structure Rel (w : World) (T : Nat → Prop) (nt : Nat) (E : Env) (a : Act) : Prop where
  size : a.tmps.size = nt
  tm : ∀ t, t < nt → RV w T (E t) (a.tmps.getD t undef)

section
variable {w : World} {T : Nat → Prop} {nt : Nat} {E : Env} {a : Act}
theorem Rel.ev (hr : Rel w T nt E a) {x : Operand} {y : Opd} (h : mOpd nt x y = true) : RV w T (ev E y) (a.eval x) := by
  unfold mOpd at h
  split at h
  · simp at h
    obtain ⟨rfl, hlt⟩ := h
    exact hr.tm _ hlt
  · exact constV_rv h
  · simp at h
    subst h
    exact RC.rv (.fn _ [] [] rfl (by simp) (by simp)) rfl
  · simp at h
theorem Rel.evs (hr : Rel w T nt E a) {xs : Array Operand} {ys : List Opd} (h : mOpds nt xs ys = true) : (xs.map a.eval).size = (ys.map (Go.AVM.ev E)).length ∧
    ∀ (i : Nat) (x : AV), (ys.map (Go.AVM.ev E))[i]? = some x → ∃ u, (xs.map a.eval)[i]? = some u ∧ RV w T x u := by
  simp only [mOpds, Bool.and_eq_true, decide_eq_true_eq, List.all_eq_true] at h
  obtain ⟨hl, h⟩ := h
  refine ⟨by simpa using hl, fun i x hi => ?_⟩
  rw [List.getElem?_map] at hi
  obtain ⟨y, hy, rfl⟩ := Option.map_eq_some_iff.1 hi
  have hlt : i < xs.size := by
    rw [hl]
    exact (List.getElem?_eq_some_iff.1 hy).1
  refine ⟨a.eval xs[i], by simp [hlt], hr.ev (h (xs[i], y) ?_)⟩
  refine List.mem_iff_getElem?.2 ⟨i, ?_⟩
  rw [List.getElem?_zip_eq_some]
  exact ⟨by simp [hlt], hy⟩
end
end Go.AVM

/- The quiet operations, one by one. -/
namespace Go.AVM
set_option linter.unusedSimpArgs false
open Go.RowKit
set_option linter.unusedVariables false

def Quiet (P : Program) (w : World) (m : Bool) (o : Oper) (a : Act) (u : Value) : Prop := ∀ w', (m = true → Below w.heap.size w w') → (execOp a.eval o).run P w' = .ok (.value u) w'

section
variable {w : World} {T : Nat → Prop} {v : Value}
theorem RV.int_inv {k : IntKind} {n : Int} (h : RV w T (.int k n) v) : v = .int k n := by
  have h : RC w T (.int k n) [v] := h
  cases h; rfl
theorem RV.bool_inv {b : Bool} (h : RV w T (.bool b) v) : v = .bool b := by
  have h : RC w T (.bool b) [v] := h
  cases h; rfl
theorem RV.str_inv {b : ByteArray} (h : RV w T (.str b) v) : v = .string b := by
  have h : RC w T (.str b) [v] := h
  cases h; rfl
theorem RV.emp_inv (h : RV w T .emp v) : ∃ a, v = .slice a 0 0 := by
  have h : RC w T .emp [v] := h
  cases h; exact ⟨_, rfl⟩
theorem RV.own_inv {d b s len : Nat} (h : RV w T (.own d b s len) v) : ∃ cap, v = .slice (some ⟨b, 0, none⟩) len cap ∧ len ≤ cap ∧ cap ≤ maxLen ∧ ∃ (c : Array Value) (e : TypeId), w.heap[b]? = some (.cells c e (0, 0)) ∧ c.size = cap * s := by
  have h : RC w T (.own d b s len) [v] := h
  cases h with | own d b s len cap hl hm h' => exact ⟨cap, rfl, hl, hm, h'⟩
theorem RV.optr_inv {d b s i : Nat} {f : Option Nat} (h : RV w T (.optr d b s i f) v) : v = .pointer (some ⟨b, i * s + f.getD 0, none⟩) := by
  have h : RC w T (.optr d b s i f) [v] := h
  cases h; rfl
theorem RV.lptr_inv {x : AV} (h : RV w T (.lptr x) v) : ∃ g off cs, v = .pointer (some ⟨g, off, none⟩) ∧ T g ∧ cs.length = x.sz ∧ (∀ (j : Nat) (u : Value), cs[j]? = some u → w.cell? ⟨g, off + j, none⟩ = some u) ∧ RC w T x cs := by
  have h : RC w T (.lptr x) [v] := h
  cases h with | lptr x cs g off hT hs hc h' => exact ⟨g, off, cs, rfl, hT, hs, hc, h'⟩
theorem RV.lsl_inv {t : Option (Nat × Nat)} {len : Nat} {xs : List AV} (h : RV w T (.lsl t len xs) v) : ∃ a cap s, ∃ cells : Nat → List Value, v = .slice a len cap ∧ len ≤ cap ∧ len ≤ xs.length ∧ xs.length ≤ cap ∧ cap ≤ maxLen ∧
      (xs ≠ [] → ∃ (g off : Nat), a = some ⟨g, off, none⟩ ∧ T g ∧ ∀ (i : Nat) (x : AV), xs[i]? = some x → (cells i).length = s ∧ ∀ (j : Nat) (v : Value), (cells i)[j]? = some v → w.cell? ⟨g, off + i * s + j, none⟩ = some v) ∧
      (∀ (b s' : Nat), t = some (b, s') → s' = s ∧ T b ∧ a = some ⟨b, 0, none⟩ ∧ ∃ (c : Array Value) (e : TypeId), w.heap[b]? = some (.cells c e (0, 0)) ∧ c.size = cap * s) ∧
      (∀ (i : Nat) (x : AV), xs[i]? = some x → RC w T x (cells i)) := by
  have h : RC w T (.lsl t len xs) [v] := h
  cases h with | lsl t len cap s xs a cells h1 h2 h3 hm hne ht h' => exact ⟨a, cap, s, cells, rfl, h1, h2, h3, hm, hne, ht, h'⟩
theorem RV.agg_inv {fs : List AV} (h : RV w T (.agg fs) v) : ∃ cs, v = .agg cs ∧ fs.length = cs.size ∧ (∀ f ∈ fs, f.isAgg = false) ∧ ∀ (i : Nat) (f : AV) (c : Value), fs[i]? = some f → cs[i]? = some c → RC w T f [c] := by
  obtain ⟨cs, rfl, h⟩ := h
  cases h with | agg _ _ hl hn h => exact ⟨cs, rfl, by simpa using hl, hn, fun i f c hf hc => h i f c hf (by simpa using hc)⟩
theorem RV.fn_inv {f : FuncId} {cap : List AV} (h : RV w T (.fn f cap) v) : ∃ cs : List Value, v = .func (.func f) #[] cs.toArray ∧ cap.length = cs.length ∧ (∀ f ∈ cap, f.isAgg = false) ∧ ∀ (i : Nat) (x : AV) (c : Value), cap[i]? = some x → cs[i]? = some c → RC w T x [c] := by
  have h : RC w T (.fn f cap) [v] := h
  cases h with | fn _ _ cs hl hn h' => exact ⟨cs, rfl, hl, hn, h'⟩
theorem RV.tup_inv {vs : List AV} (h : RV w T (.tup vs) v) : ∃ cs : Array Value, v = .tuple cs ∧ cs.size = vs.length ∧ ∀ (i : Nat) (x : AV), vs[i]? = some x → ∃ u, cs[i]? = some u ∧ RV0 w T x u := h
theorem RV.of0 {x : AV} (h : RV0 w T x v) : RV w T x v := by
  cases x <;> first | exact h | exact h.elim
end

section
variable {P : Program} {w : World} {T base : Nat → Prop} {nt : Nat} {E : Env} {H : Hp} {a : Act} {K : Nat → AV → Prop} {o : Oper}

theorem mOp_dst {vo : VOp} (hm : mOp P nt o vo = true) {d : Nat} (hd : vo.dst = some d) : o.dst = some d ∧ d < nt ∧ mOp2 P nt o.op vo = true := by
  simp only [mOp, hd, Bool.and_eq_true, beq_iff_eq, decide_eq_true_eq] at hm
  exact ⟨hm.1.1, hm.1.2, hm.2⟩

theorem q_mv {d : Nat} {y : Opd} (hr : Rel w T nt E a) (hm : mOp P nt o (.mv d y) = true) (h : vq E H (.mv d y) K) :
    ∃ d x u, o.dst = some d ∧ d < nt ∧ K d x ∧ RV w T x u ∧ Quiet P w false o a u := by
  obtain ⟨h1, h2, h3⟩ := mOp_dst hm rfl
  obtain ⟨x, hx, hop⟩ : ∃ x, mOpd nt x y = true ∧ (o.op = .move x ∨ o.op = .assign x) := by
    generalize o.op = op at *
    cases op <;> simp_all [mOp2, VOp.base, mOp1]
  refine ⟨d, _, a.eval x, h1, h2, h, hr.ev hx, fun w' _ => ?_⟩
  rcases hop with e | e <;> simp [execOp, e]

theorem bin_int {op : BinOp} {t : TypeId} {x1 x2 : Operand} {k j : IntKind} {m n : Int} {v : AV} (hv : binv op (.int k m) (.int j n) = some v) :
    ∃ u, RC w T v [u] ∧ v.isAgg = false ∧ ∀ w', (do eqGuard op t x1 x2 (.int k m) (.int j n); binOp op t (.int k m) (.int j n) : Sem Value).run P w' = .ok u w' := by
  cases op <;> simp only [binv, Option.ite_none_right_eq_some, Option.some.injEq, reduceCtorEq] at hv
  all_goals (obtain ⟨hc, rfl⟩ := hv)
  case shr =>
    refine ⟨.int _ _, RC.int _ _, rfl, fun w' => ?_⟩
    have : ¬ n < 0 := by omega
    simp [eqGuard, binOp, Op.shift, this]
  case quo => obtain ⟨rfl, hb⟩ := hc; exact ⟨.int _ _, RC.int _ _, rfl, fun w' => by simp [eqGuard, binOp, Op.intDiv, hb]⟩
  case rem => obtain ⟨rfl, hb⟩ := hc; exact ⟨.int _ _, RC.int _ _, rfl, fun w' => by simp [eqGuard, binOp, Op.intDiv, hb]⟩
  case xor => subst hc; exact ⟨.int _ _, RC.int _ _, rfl, fun w' => by simp [eqGuard, binOp, Op.intBits]⟩
  all_goals subst hc
  all_goals first
    | exact ⟨.int _ _, RC.int _ _, rfl, fun w' => by simp [eqGuard, binOp, Op.intArith]⟩
    | exact ⟨.bool _, RC.bool _, rfl, fun w' => by simp [eqGuard, binOp, Op.intCmp]⟩

theorem bin_str {op : BinOp} {t : TypeId} {x1 x2 : Operand} {m n : ByteArray} {v : AV} (hv : binv op (.str m) (.str n) = some v) :
    ∃ u, RC w T v [u] ∧ v.isAgg = false ∧ ∀ w', (do eqGuard op t x1 x2 (.string m) (.string n); binOp op t (.string m) (.string n) : Sem Value).run P w' = .ok u w' := by
  cases op <;> simp only [binv, Option.ite_none_right_eq_some, Option.some.injEq, reduceCtorEq] at hv
  case add =>
    obtain ⟨hc, rfl⟩ := hv
    refine ⟨.string _, RC.str _, rfl, fun w' => ?_⟩
    have : ¬ (((m.size + n.size : Nat) : Int) > IntKind.i64.max) := by
      simp only [IntKind.max, IntKind.signed, IntKind.bits]
      simp only [if_true]
      omega
    simp only [eqGuard, binOp, Op.stringOp, if_neg this]
    simp
  all_goals (subst hv; exact ⟨.bool _, RC.bool _, rfl, fun w' => by simp [eqGuard, binOp, Op.stringOp]⟩)

theorem bin_run {op : BinOp} {t : TypeId} {x1 x2 : Operand} {vx vy v : AV} {ux uy : Value} (hx : RV w T vx ux) (hy : RV w T vy uy) (hv : binv op vx vy = some v) :
    ∃ u, RV w T v u ∧ ∀ w', (do eqGuard op t x1 x2 ux uy; binOp op t ux uy : Sem Value).run P w' = .ok u w' := by
  cases vx <;> cases vy <;> first | (cases op <;> simp [binv] at hv; done) | skip
  · rw [hx.int_inv, hy.int_inv]
    obtain ⟨u, h1, h2, h3⟩ := bin_int (P := P) (w := w) (T := T) (t := t) (x1 := x1) (x2 := x2) hv
    exact ⟨u, h1.rv h2, h3⟩
  · rw [hx.str_inv, hy.str_inv]
    obtain ⟨u, h1, h2, h3⟩ := bin_str (P := P) (w := w) (T := T) (t := t) (x1 := x1) (x2 := x2) hv
    exact ⟨u, h1.rv h2, h3⟩

theorem q_bin {d : Nat} {op : BinOp} {y z : Opd} (hr : Rel w T nt E a) (hm : mOp P nt o (.bin d op y z) = true) (h : vq E H (.bin d op y z) K) :
    ∃ d x u, o.dst = some d ∧ d < nt ∧ K d x ∧ RV w T x u ∧ Quiet P w false o a u := by
  obtain ⟨h1, h2, h3⟩ := mOp_dst hm rfl
  obtain ⟨t, x1, x2, t2, hx, hy, hop⟩ : ∃ t x1 x2 t2, mOpd nt x1 y = true ∧ mOpd nt x2 z = true ∧ o.op = .binOp op t x1 x2 t2 := by
    generalize o.op = op' at *
    cases op' <;> first | (simp [mOp2, VOp.base, mOp1] at h3; done) | skip
    simp [mOp2, VOp.base, mOp1] at h3
    exact ⟨_, _, _, _, h3.1.2, h3.2, by rw [h3.1.1]⟩
  obtain ⟨v, hv, hK⟩ := h
  obtain ⟨u, hu, hrun⟩ := bin_run (P := P) (t := t) (x1 := x1) (x2 := x2) (hr.ev hx) (hr.ev hy) hv
  refine ⟨d, v, u, h1, h2, hK, hu, fun w' _ => ?_⟩
  simp only [execOp, hop]
  rw [Sem.run_bind, hrun w']
  simp

theorem q_beq {d : Nat} {neg : Bool} {y z : Opd} (hr : Rel w T nt E a) (hm : mOp P nt o (.beq d neg y z) = true) (h : vq E H (.beq d neg y z) K) :
    ∃ d x u, o.dst = some d ∧ d < nt ∧ K d x ∧ RV w T x u ∧ Quiet P w false o a u := by
  obtain ⟨h1, h2, h3⟩ := mOp_dst hm rfl
  obtain ⟨op, t, x1, x2, t2, hx, hy, hu, he, hop⟩ : ∃ op t x1 x2 t2, mOpd nt x1 y = true ∧ mOpd nt x2 z = true ∧ P.underlying t = some .bool ∧ op = (if neg = true then .neq else .eql) ∧ o.op = .binOp op t x1 x2 t2 := by
    generalize o.op = op' at *
    cases op' <;> first | (simp [mOp2, VOp.base, mOp1] at h3; done) | skip
    rename_i op t x1 x2 t2
    simp [mOp2, VOp.base, mOp1] at h3
    obtain ⟨⟨⟨he, hu⟩, hx⟩, hy⟩ := h3
    refine ⟨op, t, x1, x2, t2, hx, hy, ?_, he, rfl⟩
    split at hu
    · assumption
    · cases hu
  obtain ⟨m, n, hv1, hv2, hK⟩ := h
  have g1 := hr.ev hx
  have g2 := hr.ev hy
  rw [hv1] at g1
  rw [hv2] at g2
  refine ⟨d, _, .bool (if neg = true then !(m == n) else (m == n)), h1, h2, hK, RC.bool _, fun w' _ => ?_⟩
  subst he
  simp only [execOp, hop, g1.bool_inv, g2.bool_inv]
  cases neg
  · rw [Sem.run_bind]
    have := run_eql_bool w' t m n hu
    simp [eqGuard] at this ⊢
    simp [this]
  · have := run_neq_bool w' t m n hu
    simp [eqGuard] at this ⊢
    simp [this]

theorem q_not {d : Nat} {y : Opd} (hr : Rel w T nt E a) (hm : mOp P nt o (.not d y) = true) (h : vq E H (.not d y) K) :
    ∃ d x u, o.dst = some d ∧ d < nt ∧ K d x ∧ RV w T x u ∧ Quiet P w false o a u := by
  obtain ⟨h1, h2, h3⟩ := mOp_dst hm rfl
  obtain ⟨t, x, hx, hop⟩ : ∃ t x, mOpd nt x y = true ∧ o.op = .unOp .not t x := by
    generalize o.op = op' at *
    cases op' <;> first | (simp [mOp2, VOp.base, mOp1] at h3; done) | skip
    rename_i op t x
    cases op <;> first | (simp [mOp2, VOp.base, mOp1] at h3; done) | skip
    exact ⟨t, x, h3, rfl⟩
  obtain ⟨b, hb, hK⟩ := h
  have hv := hr.ev hx
  rw [hb] at hv
  refine ⟨d, _, .bool (!b), h1, h2, hK, RC.bool _, fun w' _ => ?_⟩
  simp [execOp, hop, hv.bool_inv, Op.unary]

theorem q_pick {d : Nat} {c y z : Opd} (hr : Rel w T nt E a) (hm : mOp P nt o (.pick d c y z) = true) (h : vq E H (.pick d c y z) K) :
    ∃ d x u, o.dst = some d ∧ d < nt ∧ K d x ∧ RV w T x u ∧ Quiet P w false o a u := by
  obtain ⟨h1, h2, h3⟩ := mOp_dst hm rfl
  obtain ⟨c', x1, x2, hc, hx, hy, hop⟩ : ∃ c' x1 x2, mOpd nt c' c = true ∧ mOpd nt x1 y = true ∧ mOpd nt x2 z = true ∧ o.op = .pick c' x1 x2 := by
    generalize o.op = op' at *
    cases op' <;> first | (simp [mOp2, VOp.base, mOp1] at h3; done) | skip
    simp [mOp2, VOp.base, mOp1] at h3
    exact ⟨_, _, _, h3.1.1, h3.1.2, h3.2, rfl⟩
  obtain ⟨b, hb, hK⟩ := h
  have hv := hr.ev hc
  rw [hb] at hv
  refine ⟨d, _, if b = true then a.eval x1 else a.eval x2, h1, h2, hK, ?_, fun w' _ => ?_⟩
  · cases b
    · exact hr.ev hy
    · exact hr.ev hx
  · cases b <;> simp [execOp, hop, hv.bool_inv, asBool]

theorem isStr_spec {t : TypeId} (h : isStr P t = true) : P.underlying t = some .string := by
  unfold isStr at h
  split at h <;> simp_all
theorem isSl_spec {t : TypeId} (h : isSl P t = true) : ∃ e, P.underlying t = some (.slice e) := by
  unfold isSl at h
  split at h <;> simp_all
theorem elOf_spec {t : TypeId} {ti : TypeInfo} (h : elOf P t = some ti) : ∃ e, P.underlying t = some (.slice e) ∧ P.info? e = some ti := by
  unfold elOf at h
  split at h
  · exact ⟨_, by assumption, h⟩
  · cases h

theorem inv_len {op : Op} {d : Nat} {b : Bool} {y : Opd} (h : mOp1 P nt op (.len d b y) = true) :
    ∃ x t, mOpd nt x y = true ∧ (if b then isStr P t else isSl P t) = true ∧ op = .call { callee := .builtin .len, args := #[x], argTypes := #[t] } := by
  cases op <;> first | (simp [mOp2, VOp.base, mOp1] at h; done) | skip
  rename_i c
  obtain ⟨cal, ⟨args⟩, ⟨ts⟩⟩ := c
  cases cal <;> first | (simp [mOp2, VOp.base, mOp1] at h; done) | skip
  rename_i bi
  cases bi <;> first | (simp [mOp2, VOp.base, mOp1] at h; done) | skip
  rcases args with _ | ⟨x, _ | _⟩ <;> first | (simp [mOp2, VOp.base, mOp1] at h; done) | skip
  rcases ts with _ | ⟨t, _ | _⟩ <;> first | (simp [mOp2, VOp.base, mOp1] at h; done) | skip
  simp only [mOp2, VOp.base, mOp1, Bool.and_eq_true] at h
  exact ⟨x, t, h.1, h.2, rfl⟩

theorem q_len {d : Nat} {b : Bool} {y : Opd} (hr : Rel w T nt E a) (hm : mOp P nt o (.len d b y) = true) (h : vq E H (.len d b y) K) :
    ∃ d x u, o.dst = some d ∧ d < nt ∧ K d x ∧ RV w T x u ∧ Quiet P w false o a u := by
  obtain ⟨h1, h2, h3⟩ := mOp_dst hm rfl
  obtain ⟨x, t, hx, ht, hop⟩ := inv_len h3
  obtain ⟨n, hn, hK⟩ := h
  have hv := hr.ev hx
  generalize ev E y = vy at *
  refine ⟨d, _, .int .i64 n, h1, h2, hK, RC.int _ _, fun w' _ => ?_⟩
  cases b with
  | true =>
    cases vy <;> simp [lenv] at hn
    subst hn
    simp [execOp, hop, resolve, invoke, builtin, hv.str_inv, Builtin.len_, run_underlying (isStr_spec ht), goInt]
  | false =>
    obtain ⟨e, he⟩ := isSl_spec ht
    cases vy <;> simp [lenv] at hn
    · obtain ⟨a', ha'⟩ := hv.emp_inv
      subst hn
      simp [execOp, hop, resolve, invoke, builtin, ha', Builtin.len_, run_underlying he, goInt]
    · obtain ⟨a', cap, s, cells, ha', _⟩ := hv.lsl_inv
      subst hn
      simp [execOp, hop, resolve, invoke, builtin, ha', Builtin.len_, run_underlying he, goInt]
    · obtain ⟨cap, ha', _⟩ := hv.own_inv
      subst hn
      simp [execOp, hop, resolve, invoke, builtin, ha', Builtin.len_, run_underlying he, goInt]

theorem q_idx {d : Nat} {y z : Opd} (hr : Rel w T nt E a) (hm : mOp P nt o (.idx d y z) = true) (h : vq E H (.idx d y z) K) :
    ∃ d x u, o.dst = some d ∧ d < nt ∧ K d x ∧ RV w T x u ∧ Quiet P w false o a u := by
  obtain ⟨h1, h2, h3⟩ := mOp_dst hm rfl
  obtain ⟨t, x1, x2, ht, hx, hy, hop⟩ : ∃ t x1 x2, isStr P t = true ∧ mOpd nt x1 y = true ∧ mOpd nt x2 z = true ∧ o.op = .index t x1 x2 := by
    generalize o.op = op' at *
    cases op' <;> first | (simp [mOp2, VOp.base, mOp1] at h3; done) | skip
    simp [mOp2, VOp.base, mOp1] at h3
    exact ⟨_, _, _, h3.1.1, h3.1.2, h3.2, rfl⟩
  have hvx := hr.ev hx
  have hvy := hr.ev hy
  simp only [vq] at h
  generalize ev E y = vy at *
  generalize ev E z = vz at *
  cases vy <;> first | (exact h.elim) | skip
  cases vz <;> first | (exact h.elim) | skip
  rename_i s k i
  obtain ⟨c, hc, h0, hK⟩ := h
  refine ⟨d, _, .int .u8 c.toNat, h1, h2, hK, RC.int _ _, fun w' _ => ?_⟩
  have hc' : s[i.toNat]? = some c := by
    have hlt := (Array.getElem?_eq_some_iff.1 hc).1
    have : s[i.toNat]? = some (s[i.toNat]'hlt) := getElem?_pos s i.toNat hlt
    rw [this]
    exact congrArg some (Array.getElem?_eq_some_iff.1 hc).2
  simp [execOp, hop, hvx.str_inv, hvy.int_inv, Instr.index, asIntOf, run_underlying (isStr_spec ht), h0, hc']

theorem add_none (g off k : Nat) : (⟨g, off, none⟩ : Addr).add k = ⟨g, off + k, none⟩ := by
  unfold Addr.add
  split
  · rename_i h; simp [h]
  · rfl

theorem q_idxA {d s : Nat} {y z : Opd} (hr : Rel w T nt E a) (hm : mOp P nt o (.idxA d s y z) = true) (h : vq E H (.idxA d s y z) K) :
    ∃ d x u, o.dst = some d ∧ d < nt ∧ K d x ∧ RV w T x u ∧ Quiet P w false o a u := by
  obtain ⟨h1, h2, h3⟩ := mOp_dst hm rfl
  obtain ⟨t, x1, x2, ti, hs0, ht, hts, hx, hy, hop⟩ : ∃ t x1 x2 ti, 0 < s ∧ elOf P t = some ti ∧ ti.size = s ∧ mOpd nt x1 y = true ∧ mOpd nt x2 z = true ∧ o.op = .indexAddr t x1 x2 := by
    generalize o.op = op' at *
    cases op' <;> first | (simp [mOp2, VOp.base, mOp1] at h3; done) | skip
    simp only [mOp2, VOp.base, mOp1, Bool.and_eq_true] at h3
    obtain ⟨⟨⟨h3, h4⟩, h5⟩, h6⟩ := h3
    split at h4
    · exact ⟨_, _, _, _, by simpa using h3, by assumption, by simpa using h4, h5, h6, rfl⟩
    · cases h4
  obtain ⟨e, he, hi⟩ := elOf_spec ht
  have hvx := hr.ev hx
  have hvy := hr.ev hy
  simp only [vq] at h
  generalize ev E y = vy at *
  generalize ev E z = vz at *
  cases vy <;> first | (exact h.elim) | skip
  · cases vz <;> first | (exact h.elim) | skip
    rename_i tg len xs k i
    obtain ⟨x, hxi, h0, hlt, hsz, hK⟩ := h
    obtain ⟨ad, cap, s', cells, hav, hlc, hll, hxc, _, hne, _, hrc⟩ := hvx.lsl_inv
    have hne' : xs ≠ [] := by rintro rfl; simp at hxi
    obtain ⟨g, off, rfl, hT, hcell⟩ := hne hne'
    obtain ⟨hcl, hcc⟩ := hcell _ _ hxi
    have hrx := hrc _ _ hxi
    have hl := hrx.len (by omega)
    have hs' : s' = s := by omega
    subst hs'
    refine ⟨d, _, .pointer (some ⟨g, off + i.toNat * s', none⟩), h1, h2, hK, RC.lptr x (cells i.toNat) g _ hT hl (fun j v hj => hcc j v hj) hrx, fun w' _ => ?_⟩
    simp [execOp, hop, hav, hvy.int_inv, Instr.indexAt, asIntOf, run_underlying he, h0, hlt, sizeOf, typeInfo, hi, hts, add_none]
  · cases vz <;> first | (exact h.elim) | skip
    rename_i d' b s' len k i
    obtain ⟨h0, hlt, rfl, hK⟩ := h
    obtain ⟨cap, hav, _⟩ := hvx.own_inv
    refine ⟨d, _, .pointer (some ⟨b, i.toNat * s', none⟩), h1, h2, hK, (by have := RC.optr (w := w) (T := T) d' b s' i.toNat none; simpa [RV, RV0] using this), fun w' _ => ?_⟩
    simp [execOp, hop, hav, hvy.int_inv, Instr.indexAt, asIntOf, run_underlying he, h0, hlt, sizeOf, typeInfo, hi, hts, add_none]

theorem below_cell {w' : World} {g o : Nat} {v : Value} (hb : Below w.heap.size w w') (h : w.cell? ⟨g, o, none⟩ = some v) : w'.cell? ⟨g, o, none⟩ = some v := by
  have hlt : g < w.heap.size := World.block_lt_of_cell? w ⟨g, o, none⟩ h
  rw [cell_of (hb.block g hlt)]
  exact h

theorem q_fldA {d f : Nat} {y : Opd} (hr : Rel w T nt E a) (hm : mOp P nt o (.fldA d y f) = true) (h : vq E H (.fldA d y f) K) :
    ∃ d x u, o.dst = some d ∧ d < nt ∧ K d x ∧ RV w T x u ∧ Quiet P w false o a u := by
  obtain ⟨h1, h2, h3⟩ := mOp_dst hm rfl
  obtain ⟨t, x1, i, fs, fd, hu, hfd, hof, hsz, hx, hop⟩ : ∃ t x1 i, ∃ fs : Array Field, ∃ fd, P.underlying t = some (.struct fs) ∧ fs[i]? = some fd ∧ fd.offset = f ∧ szT P fd.type = some 1 ∧ mOpd nt x1 y = true ∧ o.op = .fieldAddr t x1 i := by
    generalize o.op = op' at *
    cases op' <;> first | (simp [mOp2, VOp.base, mOp1] at h3; done) | skip
    simp only [mOp2, VOp.base, mOp1, Bool.and_eq_true] at h3
    obtain ⟨h4, h6⟩ := h3
    split at h4 <;> first | (cases h4; done) | skip
    split at h4 <;> first | (cases h4; done) | skip
    simp only [Bool.and_eq_true, beq_iff_eq] at h4
    exact ⟨_, _, _, _, _, by assumption, by assumption, h4.1, h4.2, h6, rfl⟩
  have hvx := hr.ev hx
  simp only [vq] at h
  generalize ev E y = vy at *
  obtain ⟨i0, hi0, hi1⟩ := Option.map_eq_some_iff.1 hsz
  cases vy <;> first | (exact h.elim) | skip
  · rename_i x
    cases x <;> first | (exact h.elim) | skip
    rename_i xs
    obtain ⟨y', hy', hna, hyz, hK⟩ := h
    obtain ⟨g, off, cs, hav, hT, hcl, hcc, hrx⟩ := hvx.lptr_inv
    cases hrx with
    | agg _ _ hl hn hrc =>
    have hlt : f < cs.length := by rw [← hl]; exact (List.getElem?_eq_some_iff.1 hy').1
    refine ⟨d, _, .pointer (some ⟨g, off + f, none⟩), h1, h2, hK, ?_, fun w' _ => ?_⟩
    · have hrc' := hrc f y' cs[f] hy' (List.getElem?_eq_getElem hlt)
      refine RC.lptr y' [cs[f]] g (off + f) hT hyz.symm (fun j v hj => ?_) hrc'
      have hj0 : j = 0 := by
        have := (List.getElem?_eq_some_iff.1 hj).1
        simpa using this
      subst hj0
      obtain rfl : cs[f] = v := by simpa using hj
      exact hcc f _ (List.getElem?_eq_getElem hlt)
    · simp [execOp, hop, hav, Instr.fieldAt, run_underlying hu, hfd, Instr.sureAddr, fieldPlace, sizeOf, typeInfo, hi0, hi1, hof, add_none]
  · rename_i d' b s i' fo
    cases fo <;> first | (exact h.elim) | skip
    obtain ⟨hlt, hK⟩ := h
    refine ⟨d, _, .pointer (some ⟨b, i' * s + f, none⟩), h1, h2, hK, ?_, fun w' _ => ?_⟩
    · have := RC.optr (w := w) (T := T) d' b s i' (some f)
      simpa [RV, RV0] using this
    · simp [execOp, hop, hvx.optr_inv, Instr.fieldAt, run_underlying hu, hfd, Instr.sureAddr, fieldPlace, sizeOf, typeInfo, hi0, hi1, hof, add_none]

theorem aggT_false {t : TypeId} (h : aggT P t = some false) (w' : World) : (isAgg t).run P w' = .ok false w' := by
  unfold aggT at h
  cases hd : P.underlying t with
  | none => simp [hd] at h
  | some d =>
    rw [hd] at h
    simp only [isAgg, Sem.run_bind, run_underlying hd, Result.andThen_ok]
    cases d <;> first | rfl | (simp at h)
theorem aggT_true {t : TypeId} (h : aggT P t = some true) (w' : World) : (isAgg t).run P w' = .ok true w' := by
  unfold aggT at h
  cases hd : P.underlying t with
  | none => simp [hd] at h
  | some d =>
    rw [hd] at h
    simp only [isAgg, Sem.run_bind, run_underlying hd, Result.andThen_ok]
    cases d <;> first | rfl | (simp at h)
theorem run_sizeOf {t : TypeId} {m : Nat} (h : szT P t = some m) (w' : World) : (sizeOf t).run P w' = .ok m w' := by
  obtain ⟨i, hi, rfl⟩ := Option.map_eq_some_iff.1 h
  simp [sizeOf, typeInfo, hi]

theorem load_one {t : TypeId} {g off : Nat} {u : Value} (hz : szOk P t none = true) (w' : World) (hc : w'.cell? ⟨g, off, none⟩ = some u) :
    (Instr.loadAt t (.pointer (some ⟨g, off, none⟩))).run P w' = .ok u w' := by
  have h : aggT P t = some false := by simpa [szOk] using hz
  simp only [Instr.loadAt, Instr.sureAddr, loadVar, Sem.run_bind, Sem.run_pure, Result.andThen_ok, aggT_false h]
  simp [hc]
theorem load_agg {t : TypeId} {g off m : Nat} {cs : List Value} (hz : szOk P t (some m) = true) (hl : cs.length = m) (w' : World) (hc : ∀ (j : Nat) (v : Value), cs[j]? = some v → w'.cell? ⟨g, off + j, none⟩ = some v) :
    (Instr.loadAt t (.pointer (some ⟨g, off, none⟩))).run P w' = .ok (.agg cs.toArray) w' := by
  have h : aggT P t = some true ∧ szT P t = some m := by simpa [szOk] using hz
  simp only [Instr.loadAt, Instr.sureAddr, loadVar, Sem.run_bind, Sem.run_pure, Result.andThen_ok, aggT_true h.1, run_sizeOf h.2, if_true]
  have := run_loadCells_list (P := P) w' ⟨g, off, none⟩ cs (fun j v hj => by rw [add_none]; exact hc j v hj)
  rw [hl] at this
  rw [this]
  rfl

theorem q_ld {d : Nat} {y : Opd} {sz : Option Nat} (hH : ∀ d k, H d = some k → BOK w T base k) (hr : Rel w T nt E a) (hm : mOp P nt o (.ld d y sz) = true) (h : vq E H (.ld d y sz) K) :
    ∃ d x u, o.dst = some d ∧ d < nt ∧ K d x ∧ RV w T x u ∧ Quiet P w true o a u := by
  obtain ⟨h1, h2, h3⟩ := mOp_dst hm rfl
  obtain ⟨t, x1, hz, hx, hop⟩ : ∃ t x1, szOk P t sz = true ∧ mOpd nt x1 y = true ∧ o.op = .load t x1 := by
    generalize o.op = op' at *
    cases op' <;> first | (simp [mOp2, VOp.base, mOp1] at h3; done) | skip
    simp only [mOp2, VOp.base, mOp1, Bool.and_eq_true] at h3
    exact ⟨_, _, h3.1, h3.2, rfl⟩
  have hvx := hr.ev hx
  simp only [vq] at h
  generalize ev E y = vy at *
  -- one cell, or a row of cells, wherever they lie
  have one : ∀ (g off : Nat) (x : AV) (u : Value), sz = none → a.eval x1 = .pointer (some ⟨g, off, none⟩) → w.cell? ⟨g, off, none⟩ = some u → RC w T x [u] → x.isAgg = false → K d x →
      ∃ d x u, o.dst = some d ∧ d < nt ∧ K d x ∧ RV w T x u ∧ Quiet P w true o a u := by
    intro g off x u hs hav hc hrc hna hK
    subst hs
    refine ⟨d, x, u, h1, h2, hK, hrc.rv hna, fun w' hb => ?_⟩
    simp [execOp, hop, hav, load_one hz w' (below_cell (hb rfl) hc)]
  have many : ∀ (g off m : Nat) (fs : List AV) (cs : List Value), sz = some m → fs.length = m → a.eval x1 = .pointer (some ⟨g, off, none⟩) → cs.length = m → (∀ (j : Nat) (v : Value), cs[j]? = some v → w.cell? ⟨g, off + j, none⟩ = some v) → RC w T (.agg fs) cs → K d (.agg fs) →
      ∃ d x u, o.dst = some d ∧ d < nt ∧ K d x ∧ RV w T x u ∧ Quiet P w true o a u := by
    intro g off m fs cs hs hf hav hl hc hrc hK
    subst hs
    refine ⟨d, .agg fs, .agg cs.toArray, h1, h2, hK, ⟨cs.toArray, rfl, hrc⟩, fun w' hb => ?_⟩
    simp [execOp, hop, hav, load_agg hz hl w' (fun j v hj => below_cell (hb rfl) (hc j v hj))]
  cases vy <;> first | (exact h.elim) | skip
  · rename_i x
    obtain ⟨hs, hK⟩ := h
    obtain ⟨g, off, cs, hav, hT, hcl, hcc, hrx⟩ := hvx.lptr_inv
    cases sz with
    | none =>
      obtain ⟨hna, hx1⟩ := hs
      rw [hx1] at hcl
      obtain ⟨u, rfl⟩ := List.length_eq_one_iff.1 hcl
      exact one g off x u rfl hav (by simpa using hcc 0 u rfl) hrx hna hK
    | some m =>
      obtain ⟨fs, rfl, hf⟩ := hs
      exact many g off m fs cs rfl hf hav (by rw [hcl]; exact hf) hcc hrx hK
  · rename_i d' b s i fo
    have hav := hvx.optr_inv
    cases fo with
    | none =>
      obtain ⟨k, hk, rfl, rfl, x, hxi, hs, hK⟩ := h
      obtain ⟨_, _, c, e, hh, _, _, hall⟩ := hH d' k hk
      obtain ⟨cs, hcl, hrc, hcc⟩ := hall i x hxi
      have hcell : ∀ (j : Nat) (v : Value), cs[j]? = some v → w.cell? ⟨k.b, i * k.s + j, none⟩ = some v := fun j v hj => by
        simp [World.cell?, hh, hcc j v hj]
      cases sz with
      | none =>
        obtain ⟨hna, hs1⟩ := hs
        rw [hs1] at hcl
        obtain ⟨u, rfl⟩ := List.length_eq_one_iff.1 hcl
        exact one k.b _ x u rfl hav (by simpa using hcell 0 u rfl) hrc hna hK
      | some m =>
        obtain ⟨fs, rfl, hf⟩ := hs
        refine many k.b _ m fs cs rfl hf hav ?_ (by simpa using hcell) hrc hK
        have := hrc.len
        by_cases h0 : (AV.agg fs).sz = 0
        · cases hrc with
          | agg _ _ hl _ _ => omega
        · have := this h0
          simp only [AV.sz] at this
          omega
    | some f =>
      obtain ⟨k, hk, rfl, rfl, fs, hxi, x, hfx, hna, hs, hK⟩ := h
      obtain ⟨_, _, c, e, hh, _, _, hall⟩ := hH d' k hk
      obtain ⟨cs, hcl, hrc, hcc⟩ := hall i _ hxi
      cases hrc with
      | agg _ _ hl hn hrc =>
      have hlt : f < cs.length := by rw [← hl]; exact (List.getElem?_eq_some_iff.1 hfx).1
      refine one k.b _ x cs[f] hs hav ?_ (hrc f x _ hfx (List.getElem?_eq_getElem hlt)) hna hK
      simp [World.cell?, hh, hcc f _ (List.getElem?_eq_getElem hlt)]

theorem q_ext {d i : Nat} {y : Opd} (hr : Rel w T nt E a) (hm : mOp P nt o (.ext d y i) = true) (h : vq E H (.ext d y i) K) :
    ∃ d x u, o.dst = some d ∧ d < nt ∧ K d x ∧ RV w T x u ∧ Quiet P w false o a u := by
  obtain ⟨h1, h2, h3⟩ := mOp_dst hm rfl
  obtain ⟨x1, hx, hop⟩ : ∃ x1, mOpd nt x1 y = true ∧ o.op = .extract x1 i := by
    generalize o.op = op' at *
    cases op' <;> first | (simp [mOp2, VOp.base, mOp1] at h3; done) | skip
    simp only [mOp2, VOp.base, mOp1, Bool.and_eq_true, beq_iff_eq] at h3
    exact ⟨_, h3.2, by rw [h3.1]⟩
  obtain ⟨vs, hvs, x, hxi, hK⟩ := h
  have hv := hr.ev hx
  rw [hvs] at hv
  obtain ⟨cs, hav, hcs, hall⟩ := hv.tup_inv
  obtain ⟨u, hu, hrx⟩ := hall i x hxi
  refine ⟨d, x, u, h1, h2, hK, RV.of0 hrx, fun w' _ => ?_⟩
  simp [execOp, hop, hav, Instr.extract, hu]

theorem q_fld {d f : Nat} {y : Opd} (hr : Rel w T nt E a) (hm : mOp P nt o (.fld d y f) = true) (h : vq E H (.fld d y f) K) :
    ∃ d x u, o.dst = some d ∧ d < nt ∧ K d x ∧ RV w T x u ∧ Quiet P w false o a u := by
  obtain ⟨h1, h2, h3⟩ := mOp_dst hm rfl
  obtain ⟨t, x1, i, fs, fd, hu, hfd, hof, hsz, hx, hop⟩ : ∃ t x1 i, ∃ fs : Array Field, ∃ fd, P.underlying t = some (.struct fs) ∧ fs[i]? = some fd ∧ fd.offset = f ∧ aggT P fd.type = some false ∧ mOpd nt x1 y = true ∧ o.op = .field t x1 i := by
    generalize o.op = op' at *
    cases op' <;> first | (simp [mOp2, VOp.base, mOp1] at h3; done) | skip
    simp only [mOp2, VOp.base, mOp1, Bool.and_eq_true] at h3
    obtain ⟨h4, h6⟩ := h3
    split at h4 <;> first | (cases h4; done) | skip
    split at h4 <;> first | (cases h4; done) | skip
    simp only [Bool.and_eq_true, beq_iff_eq] at h4
    exact ⟨_, _, _, _, _, by assumption, by assumption, h4.1, h4.2, h6, rfl⟩
  obtain ⟨xs, hxs, x, hxi, hna, hK⟩ := h
  have hv := hr.ev hx
  rw [hxs] at hv
  obtain ⟨cs, hav, hl, hn, hrc⟩ := hv.agg_inv
  have hlt : f < cs.size := by rw [← hl]; exact (List.getElem?_eq_some_iff.1 hxi).1
  refine ⟨d, x, cs[f], h1, h2, hK, (hrc f x _ hxi (by simp [hlt])).rv hna, fun w' _ => ?_⟩
  have hp := aggT_false (P := P) hsz w'
  simp [execOp, hop, hav, Instr.field, run_underlying hu, hfd, asAgg, part, hp, hof, hlt]

theorem q_conv {d : Nat} {k : IntKind} {y : Opd} (hr : Rel w T nt E a) (hm : mOp P nt o (.conv d k y) = true) (h : vq E H (.conv d k y) K) :
    ∃ d x u, o.dst = some d ∧ d < nt ∧ K d x ∧ RV w T x u ∧ Quiet P w false o a u := by
  obtain ⟨h1, h2, h3⟩ := mOp_dst hm rfl
  obtain ⟨t, t2, x1, ds, ht, ht2, hx, hop⟩ : ∃ t t2 x1 ds, P.underlying t = some ds ∧ P.underlying t2 = some (.int k) ∧ mOpd nt x1 y = true ∧ o.op = .convert t t2 x1 := by
    generalize o.op = op' at *
    cases op' <;> first | (simp [mOp2, VOp.base, mOp1] at h3; done) | skip
    simp only [mOp2, VOp.base, mOp1, Bool.and_eq_true] at h3
    obtain ⟨⟨h4, h5⟩, h6⟩ := h3
    split at h5 <;> first | (cases h5; done) | skip
    rename_i j hj
    obtain ⟨ds, hds⟩ := Option.isSome_iff_exists.1 h4
    have : j = k := by simpa using h5
    subst this
    exact ⟨_, _, _, ds, hds, hj, h6, rfl⟩
  obtain ⟨j, n, hn, hK⟩ := h
  have hv := hr.ev hx
  rw [hn] at hv
  refine ⟨d, _, .int k (k.wrap n), h1, h2, hK, RC.int _ _, fun w' _ => ?_⟩
  have e := hv.int_inv
  cases ds <;> simp [execOp, hop, e, convert, run_underlying ht, run_underlying ht2, Conv.intToInt]

theorem q_nilck {d : Nat} {y : Opd} (hr : Rel w T nt E a) (hm : mOp P nt o (.nilck d y) = true) (h : vq E H (.nilck d y) K) :
    ∃ d x u, o.dst = some d ∧ d < nt ∧ K d x ∧ RV w T x u ∧ Quiet P w false o a u := by
  obtain ⟨h1, h2, h3⟩ := mOp_dst hm rfl
  obtain ⟨x1, hx, hop⟩ : ∃ x1, mOpd nt x1 y = true ∧ o.op = .nilCheck x1 := by
    generalize o.op = op' at *
    cases op' <;> first | (simp [mOp2, VOp.base, mOp1] at h3; done) | skip
    exact ⟨_, h3, rfl⟩
  have hv := hr.ev hx
  simp only [vq] at h
  generalize ev E y = vy at *
  cases vy <;> first | (exact h.elim) | skip
  · obtain ⟨g, off, cs, hav, _⟩ := hv.lptr_inv
    exact ⟨d, _, a.eval x1, h1, h2, h, hv, fun w' _ => by simp [execOp, hop, hav]⟩
  · have hav := hv.optr_inv
    exact ⟨d, _, a.eval x1, h1, h2, h, hv, fun w' _ => by simp [execOp, hop, hav]⟩
  · obtain ⟨cs, hav, _⟩ := hv.fn_inv
    exact ⟨d, _, a.eval x1, h1, h2, h, hv, fun w' _ => by simp [execOp, hop, hav]⟩
end
end Go.AVM

/- The quiet operations, the rest: slices of slices, structs built, closures. -/
namespace Go.AVM
set_option linter.unusedSimpArgs false
open Go.RowKit
set_option linter.unusedVariables false
section
variable {P : Program} {w : World} {T base : Nat → Prop} {nt : Nat} {E : Env} {H : Hp} {a : Act} {K : Nat → AV → Prop} {o : Oper}

theorem Rel.evo (hr : Rel w T nt E a) {x : Option Operand} {y : Option Opd} (h : mOpdo nt x y = true) : (x = none ∧ y = none) ∨ ∃ x' y', x = some x' ∧ y = some y' ∧ RV w T (Go.AVM.ev E y') (a.eval x') := by
  cases x <;> cases y <;> simp [mOpdo] at h
  · exact .inl ⟨rfl, rfl⟩
  · exact .inr ⟨_, _, rfl, rfl, hr.ev h⟩

theorem run_cut {t e : TypeId} {ti : TypeInfo} (he : P.underlying t = some (.slice e)) (hi : P.info? e = some ti) (ad : Option Addr) (len cap : Nat) (l h : Option Value) (lo hi' : Nat)
    (hl : (l = none ∧ lo = 0) ∨ ∃ k, l = some (.int k lo)) (hh : (h = none ∧ hi' = len) ∨ ∃ k, h = some (.int k hi')) (h1 : lo ≤ hi') (h2 : hi' ≤ cap) (w' : World) :
    (Instr.sliceAt t (.slice ad len cap) l h none).run P w' = .ok (.slice (if cap = lo then ad else ad.map (·.add (lo * ti.size))) (hi' - lo) (cap - lo)) w' := by
  have hlo : ((lo : Nat) : Int) ≤ (hi' : Nat) := by omega
  have hhi : ((hi' : Nat) : Int) ≤ (cap : Nat) := by omega
  rcases hl with ⟨rfl, rfl⟩ | ⟨k, rfl⟩ <;> rcases hh with ⟨rfl, rfl⟩ | ⟨k', rfl⟩ <;>
    simp [Instr.sliceAt, Instr.slice, run_underlying he, Instr.sliceBounds, Instr.sliceBound, asIntOf, sizeOf, typeInfo, hi, h1, h2]

theorem run_cut_str {t : TypeId} (he : P.underlying t = some .string) (s : ByteArray) (l h : Option Value) (lo hi' : Nat)
    (hl : (l = none ∧ lo = 0) ∨ ∃ k, l = some (.int k lo)) (hh : (h = none ∧ hi' = s.size) ∨ ∃ k, h = some (.int k hi')) (h1 : lo ≤ hi') (h2 : hi' ≤ s.size) (w' : World) :
    (Instr.sliceAt t (.string s) l h none).run P w' = .ok (.string (s.extract lo hi')) w' := by
  have hlo : ((lo : Nat) : Int) ≤ (hi' : Nat) := by omega
  have hhi : ((hi' : Nat) : Int) ≤ (s.size : Nat) := by omega
  rcases hl with ⟨rfl, rfl⟩ | ⟨k, rfl⟩ <;> rcases hh with ⟨rfl, rfl⟩ | ⟨k', rfl⟩ <;>
    simp [Instr.sliceAt, Instr.slice, run_underlying he, Instr.sliceBounds, Instr.sliceBound, asIntOf, h1, h2]

/-- a window of a row that is read: from place l on -/
theorem rv_drop {t : Option (Nat × Nat)} {len s l h : Nat} {xs : List AV} {v : Value} (hv : RV w T (.lsl t len xs) v) (hs : ∀ y, xs.head? = some y → y.sz = s) (hs0 : 0 < s) (h1 : l ≤ h) (h2 : h ≤ xs.length) :
    ∃ ad cap, v = .slice ad len cap ∧ h ≤ cap ∧ RV w T (.lsl none (h - l) (xs.drop l)) (.slice (if cap = l then ad else ad.map (·.add (l * s))) (h - l) (cap - l)) := by
  obtain ⟨ad, cap, s', cells, rfl, hlc, hll, hxc, hmx, hne, _, hrc⟩ := hv.lsl_inv
  refine ⟨ad, cap, rfl, by omega, ?_⟩
  refine RC.lsl none (h - l) (cap - l) s' (xs.drop l) _ (fun i => cells (l + i)) (by omega) (by simp; omega) (by simp; omega) (by omega) (fun hd => ?_) (by simp) (fun i x hi => ?_)
  · have hlt : l < xs.length := by
      have := List.length_pos_iff.2 hd
      simp at this
      omega
    have hne' : xs ≠ [] := by rintro rfl; simp at hlt
    obtain ⟨g, off, rfl, hT, hc⟩ := hne hne'
    have hss : s' = s := by
      obtain ⟨y, ys, rfl⟩ := List.exists_cons_of_ne_nil hne'
      have hy := hs y rfl
      obtain ⟨hcl, _⟩ := hc 0 y rfl
      have := (hrc 0 y rfl).len (by omega)
      omega
    subst hss
    refine ⟨g, off + l * s', ?_, hT, fun i x hi => ?_⟩
    · rw [if_neg (by omega)]
      simp [add_none]
    · rw [List.getElem?_drop] at hi
      obtain ⟨hcl, hcc⟩ := hc _ _ hi
      refine ⟨hcl, fun j v hj => ?_⟩
      have := hcc j v hj
      rw [Nat.add_mul, ← Nat.add_assoc] at this
      exact this
  · rw [List.getElem?_drop] at hi
    exact hrc _ _ hi

theorem rv_take {t : Option (Nat × Nat)} {len h : Nat} {xs : List AV} {v : Value} (hv : RV w T (.lsl t len xs) v) (h2 : h ≤ xs.length) :
    ∃ ad cap, v = .slice ad len cap ∧ h ≤ cap ∧ RV w T (.lsl t h xs) (.slice ad h cap) := by
  obtain ⟨ad, cap, s', cells, rfl, hlc, hll, hxc, hmx, hne, ht, hrc⟩ := hv.lsl_inv
  exact ⟨ad, cap, rfl, by omega, RC.lsl t h cap s' xs ad cells (by omega) h2 hxc hmx hne ht hrc⟩

theorem add_zero_addr (ad : Addr) : ad.add 0 = ad := by simp [Addr.add]

theorem q_slc {d s : Nat} {y : Opd} {lo hi : Option Opd} (hH : ∀ d k, H d = some k → BOK w T base k) (hr : Rel w T nt E a) (hm : mOp P nt o (.slc d s y lo hi) = true) (h : vq E H (.slc d s y lo hi) K) :
    ∃ d x u, o.dst = some d ∧ d < nt ∧ K d x ∧ RV w T x u ∧ Quiet P w false o a u := by
  obtain ⟨h1, h2, h3⟩ := mOp_dst hm rfl
  obtain ⟨t, x1, l1, r1, hs, hx, hl, hh, hop⟩ : ∃ t x1 l1 r1, (if s = 0 then isStr P t else (match elOf P t with | some ti => ti.size == s | none => false)) = true ∧ mOpd nt x1 y = true ∧ mOpdo nt l1 lo = true ∧ mOpdo nt r1 hi = true ∧ o.op = .slice t x1 l1 r1 none := by
    generalize o.op = op' at *
    cases op' <;> first | (simp [mOp2, VOp.base, mOp1] at h3; done) | skip
    rename_i t x1 l1 r1 m
    cases m <;> first | (simp [mOp2, VOp.base, mOp1] at h3; done) | skip
    simp only [mOp2, VOp.base, mOp1, Bool.and_eq_true] at h3
    exact ⟨_, _, _, _, h3.1.1.1, h3.1.1.2, h3.1.2, h3.2, rfl⟩
  have hvx := hr.ev hx
  simp only [vq] at h
  have hexec : ∀ w', (execOp a.eval o).run P w' = ((Instr.sliceAt t (a.eval x1) (l1.map a.eval) (r1.map a.eval) none).run P w').andThen fun v w'' => .ok (.value v) w'' := fun w' => by
    simp [execOp, hop]
  -- what the bounds read as
  have hlo : (l1.map a.eval = none ∧ lo.map (ev E) = none) ∨ ∃ u v, l1.map a.eval = some u ∧ lo.map (ev E) = some v ∧ RV w T v u := by
    rcases hr.evo hl with ⟨rfl, rfl⟩ | ⟨x', y', rfl, rfl, hv⟩
    · exact .inl ⟨rfl, rfl⟩
    · exact .inr ⟨_, _, rfl, rfl, hv⟩
  have hhi : (r1.map a.eval = none ∧ hi.map (ev E) = none) ∨ ∃ u v, r1.map a.eval = some u ∧ hi.map (ev E) = some v ∧ RV w T v u := by
    rcases hr.evo hh with ⟨rfl, rfl⟩ | ⟨x', y', rfl, rfl, hv⟩
    · exact .inl ⟨rfl, rfl⟩
    · exact .inr ⟨_, _, rfl, rfl, hv⟩
  generalize hel : l1.map a.eval = l1v at *
  generalize her : r1.map a.eval = r1v at *
  generalize lo.map (ev E) = lov at *
  generalize hi.map (ev E) = hiv at *
  generalize ev E y = vy at *
  have slT : 0 < s → ∃ e ti, P.underlying t = some (.slice e) ∧ P.info? e = some ti ∧ ti.size = s := fun h0 => by
    rw [if_neg (by omega)] at hs
    split at hs <;> first | (cases hs; done) | skip
    rename_i ti hti
    obtain ⟨e, he, hi⟩ := elOf_spec hti
    exact ⟨e, ti, he, hi, by simpa using hs⟩
  have stT : s = 0 → P.underlying t = some .string := fun h0 => by
    rw [if_pos h0] at hs
    exact isStr_spec hs
  split at h <;> first | (exact h.elim) | skip
  · -- a string's head
    rename_i v k hI
    obtain ⟨h0, hp, hle, hK⟩ := h
    rcases hlo with ⟨rfl, _⟩ | ⟨u, v', _, h', _⟩ <;> first | (cases h'; done) | skip
    rcases hhi with ⟨_, h'⟩ | ⟨u, v', rfl, h', hru⟩ <;> first | (cases h'; done) | skip
    cases h'
    obtain ⟨m, rfl⟩ := Int.eq_ofNat_of_zero_le hp
    refine ⟨d, _, .string (v.extract 0 m), h1, h2, hK, RC.str _, fun w' _ => ?_⟩
    rw [hexec, hvx.str_inv, run_cut_str (stT h0) v none (some u) 0 m (.inl ⟨rfl, rfl⟩) (.inr ⟨k, by rw [hru.int_inv]⟩) (by omega) (by omega)]
    rfl
  · rename_i v k hI
    obtain ⟨h0, hp, hle, hK⟩ := h
    rcases hlo with ⟨_, h'⟩ | ⟨u, v', rfl, h', hru⟩ <;> first | (cases h'; done) | skip
    cases h'
    rcases hhi with ⟨rfl, _⟩ | ⟨_, _, _, h', _⟩ <;> first | (cases h'; done) | skip
    obtain ⟨m, rfl⟩ := Int.eq_ofNat_of_zero_le hp
    refine ⟨d, _, .string (v.extract m v.size), h1, h2, hK, RC.str _, fun w' _ => ?_⟩
    rw [hexec, hvx.str_inv, run_cut_str (stT h0) v (some u) none m v.size (.inr ⟨k, by rw [hru.int_inv]⟩) (.inl ⟨rfl, rfl⟩) (by omega) (by omega)]
    rfl
  · rename_i v k hI k2 hJ
    obtain ⟨h0, hp, hle, hle2, hK⟩ := h
    rcases hlo with ⟨_, h'⟩ | ⟨u, v', rfl, h', hru⟩ <;> first | (cases h'; done) | skip
    cases h'
    rcases hhi with ⟨_, h'⟩ | ⟨u2, v', rfl, h', hru2⟩ <;> first | (cases h'; done) | skip
    cases h'
    obtain ⟨m, rfl⟩ := Int.eq_ofNat_of_zero_le hp
    obtain ⟨m2, rfl⟩ := Int.eq_ofNat_of_zero_le (show 0 ≤ hJ by omega)
    refine ⟨d, _, .string (v.extract m m2), h1, h2, hK, RC.str _, fun w' _ => ?_⟩
    rw [hexec, hvx.str_inv, run_cut_str (stT h0) v (some u) (some u2) m m2 (.inr ⟨k, by rw [hru.int_inv]⟩) (.inr ⟨k2, by rw [hru2.int_inv]⟩) (by omega) (by omega)]
    rfl
  · -- a slice's head
    rename_i tg len xs k hI
    obtain ⟨h0, hp, hle, hK⟩ := h
    rcases hlo with ⟨rfl, _⟩ | ⟨u, v', _, h', _⟩ <;> first | (cases h'; done) | skip
    rcases hhi with ⟨_, h'⟩ | ⟨u, v', rfl, h', hru⟩ <;> first | (cases h'; done) | skip
    cases h'
    obtain ⟨e, ti, he, hi, hts⟩ := slT h0
    obtain ⟨m, rfl⟩ := Int.eq_ofNat_of_zero_le hp
    obtain ⟨ad, cap, hav, hmc, hrv⟩ := rv_take hvx (show m ≤ xs.length by omega)
    refine ⟨d, _, .slice ad m cap, h1, h2, hK, hrv, fun w' _ => ?_⟩
    rw [hexec, hav, run_cut he hi ad len cap none (some u) 0 m (.inl ⟨rfl, rfl⟩) (.inr ⟨k, by rw [hru.int_inv]⟩) (by omega) hmc]
    have : (ad.map fun x => x.add (0 * ti.size)) = ad := by
      cases ad <;> simp [add_zero_addr]
    rw [this]
    simp
  · rename_i tg len xs k hI
    obtain ⟨h0, hp, hle, hsz, hK⟩ := h
    rcases hlo with ⟨_, h'⟩ | ⟨u, v', rfl, h', hru⟩ <;> first | (cases h'; done) | skip
    cases h'
    rcases hhi with ⟨rfl, _⟩ | ⟨_, _, _, h', _⟩ <;> first | (cases h'; done) | skip
    obtain ⟨e, ti, he, hi, hts⟩ := slT h0
    obtain ⟨m, rfl⟩ := Int.eq_ofNat_of_zero_le hp
    have hlx : len ≤ xs.length := by obtain ⟨_, _, _, _, _, _, h, _⟩ := hvx.lsl_inv; exact h
    obtain ⟨ad, cap, hav, hmc, hrv⟩ := rv_drop hvx hsz h0 (show m ≤ len by omega) hlx
    refine ⟨d, _, _, h1, h2, hK, hrv, fun w' _ => ?_⟩
    rw [hexec, hav, run_cut he hi ad len cap (some u) none m len (.inr ⟨k, by rw [hru.int_inv]⟩) (.inl ⟨rfl, rfl⟩) (by omega) hmc, hts]
    rfl
  · rename_i tg len xs k hI k2 hJ
    obtain ⟨h0, hp, hle, hle2, hsz, hK⟩ := h
    rcases hlo with ⟨_, h'⟩ | ⟨u, v', rfl, h', hru⟩ <;> first | (cases h'; done) | skip
    cases h'
    rcases hhi with ⟨_, h'⟩ | ⟨u2, v', rfl, h', hru2⟩ <;> first | (cases h'; done) | skip
    cases h'
    obtain ⟨e, ti, he, hi, hts⟩ := slT h0
    obtain ⟨m, rfl⟩ := Int.eq_ofNat_of_zero_le hp
    obtain ⟨m2, rfl⟩ := Int.eq_ofNat_of_zero_le (show 0 ≤ hJ by omega)
    obtain ⟨ad, cap, hav, hmc, hrv⟩ := rv_drop hvx hsz h0 (show m ≤ m2 by omega) (by omega)
    refine ⟨d, _, _, h1, h2, hK, hrv, fun w' _ => ?_⟩
    rw [hexec, hav, run_cut he hi ad len cap (some u) (some u2) m m2 (.inr ⟨k, by rw [hru.int_inv]⟩) (.inr ⟨k2, by rw [hru2.int_inv]⟩) (by omega) hmc, hts]
    rfl
  · -- a head of a row of one's own
    rename_i d' b s' len k hI
    obtain ⟨h0, kb, hk, rfl, rfl, hp, hle, hK⟩ := h
    rcases hlo with ⟨rfl, _⟩ | ⟨u, v', _, h', _⟩ <;> first | (cases h'; done) | skip
    rcases hhi with ⟨_, h'⟩ | ⟨u, v', rfl, h', hru⟩ <;> first | (cases h'; done) | skip
    cases h'
    obtain ⟨e, ti, he, hi, hts⟩ := slT h0
    obtain ⟨m, rfl⟩ := Int.eq_ofNat_of_zero_le hp
    obtain ⟨cap, hav, hlc, hcm, c, e', hh', hcs⟩ := hvx.own_inv
    obtain ⟨_, hpos, c2, e2, hh2, hlen, _, _⟩ := hH _ _ hk
    have : kb.xs.length ≤ cap := by
      rw [hh2] at hh'
      injection hh' with hh'
      injection hh' with hh' _ _
      subst hh'
      rw [hcs] at hlen
      exact Nat.le_of_mul_le_mul_right hlen hpos
    refine ⟨d, _, .slice (some ⟨kb.b, 0, none⟩) m cap, h1, h2, hK, RC.own d' kb.b kb.s m cap (by omega) hcm ⟨c, e', hh', hcs⟩, fun w' _ => ?_⟩
    rw [hexec, hav, run_cut he hi _ len cap none (some u) 0 m (.inl ⟨rfl, rfl⟩) (.inr ⟨k, by rw [hru.int_inv]⟩) (by omega) (by omega)]
    simp [add_zero_addr]
  · rename_i k
    obtain ⟨h0, hK⟩ := h
    rcases hlo with ⟨rfl, _⟩ | ⟨u, v', _, h', _⟩ <;> first | (cases h'; done) | skip
    rcases hhi with ⟨_, h'⟩ | ⟨u, v', rfl, h', hru⟩ <;> first | (cases h'; done) | skip
    cases h'
    obtain ⟨e, ti, he, hi, hts⟩ := slT h0
    obtain ⟨ad, hav⟩ := hvx.emp_inv
    refine ⟨d, _, .slice ad 0 0, h1, h2, hK, RC.emp _, fun w' _ => ?_⟩
    rw [hexec, hav, run_cut he hi ad 0 0 none (some u) 0 0 (.inl ⟨rfl, rfl⟩) (.inr ⟨k, by rw [hru.int_inv]; rfl⟩) (by omega) (by omega)]
    simp
end
end Go.AVM

/- The quiet operations, the last four, and all of them in one law. -/
namespace Go.AVM
set_option linter.unusedSimpArgs false
open Go.RowKit
set_option linter.unusedVariables false
section
variable {P : Program} {w : World} {T base : Nat → Prop} {nt : Nat} {E : Env} {H : Hp} {a : Act} {K : Nat → AV → Prop} {o : Oper}

theorem inv_slc0 {op : Op} {d : Nat} {y : Opd} (h : mOp1 P nt op (.slc0 d y) = true) :
    ∃ t x1 k1 k2 ti, elOf P t = some ti ∧ mOpd nt x1 y = true ∧ op = .slice t x1 none (some (.const (.int k1 0))) (some (.const (.int k2 0))) := by
  cases op <;> first | (simp [mOp2, VOp.base, mOp1] at h; done) | skip
  rename_i t x lo hi mx
  rcases lo with _ | lo <;> first | (simp [mOp2, VOp.base, mOp1] at h; done) | skip
  rcases hi with _ | hi <;> first | (simp [mOp2, VOp.base, mOp1] at h; done) | skip
  rcases mx with _ | mx <;> first | (simp [mOp2, VOp.base, mOp1] at h; done) | skip
  cases hi <;> first | (simp [mOp2, VOp.base, mOp1] at h; done) | skip
  cases mx <;> first | (simp [mOp2, VOp.base, mOp1] at h; done) | skip
  rename_i u v
  cases u <;> first | (simp [mOp2, VOp.base, mOp1] at h; done) | skip
  cases v <;> first | (simp [mOp2, VOp.base, mOp1] at h; done) | skip
  simp only [mOp2, VOp.base, mOp1, Bool.and_eq_true, decide_eq_true_eq] at h
  obtain ⟨⟨⟨rfl, rfl⟩, h4⟩, h5⟩ := h
  obtain ⟨ti, hti⟩ := Option.isSome_iff_exists.1 h4
  exact ⟨_, _, _, _, ti, hti, h5, rfl⟩

theorem ev_const (v : Value) : a.eval (.const v) = v := rfl

theorem q_slc0 {d : Nat} {y : Opd} (hr : Rel w T nt E a) (hm : mOp P nt o (.slc0 d y) = true) (h : vq E H (.slc0 d y) K) :
    ∃ d x u, o.dst = some d ∧ d < nt ∧ K d x ∧ RV w T x u ∧ Quiet P w false o a u := by
  obtain ⟨h1, h2, h3⟩ := mOp_dst hm rfl
  obtain ⟨t, x1, k1, k2, ti, hti, hx, hop⟩ := inv_slc0 h3
  obtain ⟨e, he, hi⟩ := elOf_spec hti
  have hvx := hr.ev hx
  simp only [vq] at h
  have key : ∃ ad len cap, a.eval x1 = .slice ad len cap := by
    generalize ev E y = vy at *
    cases vy <;> first | (exact h.elim) | skip
    · obtain ⟨ad, hav⟩ := hvx.emp_inv; exact ⟨ad, 0, 0, hav⟩
    · obtain ⟨ad, cap, _, _, hav, _⟩ := hvx.lsl_inv; exact ⟨ad, _, cap, hav⟩
    · obtain ⟨cap, hav, _⟩ := hvx.own_inv; exact ⟨_, _, cap, hav⟩
  have hK : K d .emp := by
    generalize ev E y = vy at *
    cases vy <;> first | (exact h.elim) | exact h
  obtain ⟨ad, len, cap, hav⟩ := key
  have hid : (Option.map (fun x : Addr => x.add 0) ad) = ad := by cases ad <;> simp [add_zero_addr]
  refine ⟨d, _, .slice ad 0 0, h1, h2, hK, RC.emp _, fun w' _ => ?_⟩
  simp [execOp, hop, hav, ev_const, Instr.sliceAt, Instr.slice, run_underlying he, Instr.sliceBounds, Instr.sliceBound, asIntOf, sizeOf, typeInfo, hi]

theorem q_mx {d : Nat} {gt : Bool} {y z : Opd} (hr : Rel w T nt E a) (hm : mOp P nt o (.mx d gt y z) = true) (h : vq E H (.mx d gt y z) K) :
    ∃ d x u, o.dst = some d ∧ d < nt ∧ K d x ∧ RV w T x u ∧ Quiet P w false o a u := by
  obtain ⟨h1, h2, h3⟩ := mOp_dst hm rfl
  obtain ⟨b, x1, x2, ts, hb, hx, hy, hop⟩ : ∃ b x1 x2 ts, (match b with | Builtin.max => gt | Builtin.min => !gt | _ => false) = true ∧ mOpd nt x1 y = true ∧ mOpd nt x2 z = true ∧ o.op = .call { callee := .builtin b, args := #[x1, x2], argTypes := ts } := by
    generalize o.op = op at *
    cases op <;> first | (simp [mOp2, VOp.base, mOp1] at h3; done) | skip
    rename_i c
    obtain ⟨cal, ⟨args⟩, ts⟩ := c
    cases cal <;> first | (simp [mOp2, VOp.base, mOp1] at h3; done) | skip
    rename_i bi
    rcases args with _ | ⟨x, _ | ⟨x2, _ | _⟩⟩ <;> first | (simp [mOp2, VOp.base, mOp1] at h3; done) | skip
    simp only [mOp2, VOp.base, mOp1, Bool.and_eq_true] at h3
    exact ⟨bi, x, x2, ts, h3.1, h3.2.1, h3.2.2, rfl⟩
  obtain ⟨k, m, n, hem, hen, hK⟩ := h
  have hvx := hr.ev hx
  have hvy := hr.ev hy
  rw [hem] at hvx
  rw [hen] at hvy
  refine ⟨d, _, _, h1, h2, hK, RC.int _ _, fun w' _ => ?_⟩
  cases b <;> simp at hb
  · subst hb
    simp [execOp, hop, resolve, invoke, builtin, hvx.int_inv, hvy.int_inv, Builtin.max_, Builtin.max2]
  · subst hb
    simp [execOp, hop, resolve, invoke, builtin, hvx.int_inv, hvy.int_inv, Builtin.min_, Builtin.min2]

theorem rv_cell {x : AV} {v : Value} (hv : RV w T x v) (hna : x.isAgg = false) (hz : x.sz = 1) : RC w T x [v] := hv.cell hna (by omega)

theorem q_mkf {d f : Nat} {ys : List Opd} (hr : Rel w T nt E a) (hm : mOp P nt o (.mkf d f ys) = true) (h : vq E H (.mkf d f ys) K) :
    ∃ d x u, o.dst = some d ∧ d < nt ∧ K d x ∧ RV w T x u ∧ Quiet P w false o a u := by
  obtain ⟨h1, h2, h3⟩ := mOp_dst hm rfl
  obtain ⟨first, caps, hf, hx, hop⟩ : ∃ first caps, first = #[] ∧ mOpds nt caps ys = true ∧ o.op = .makeFunc (.func f) first caps := by
    generalize o.op = op at *
    cases op <;> first | (simp [mOp2, VOp.base, mOp1] at h3; done) | skip
    rename_i fn first caps
    cases fn <;> first | (simp [mOp2, VOp.base, mOp1] at h3; done) | skip
    simp only [mOp2, VOp.base, mOp1, Bool.and_eq_true, beq_iff_eq] at h3
    exact ⟨first, caps, by simpa using h3.1.2, h3.2, by rw [h3.1.1]⟩
  subst hf
  obtain ⟨hall, hK⟩ := h
  obtain ⟨hl, hev⟩ := hr.evs hx
  refine ⟨d, _, .func (.func f) #[] (caps.map a.eval), h1, h2, hK, ?_, fun w' _ => by simp [execOp, hop, Instr.makeFunc]⟩
  have hto : (Value.func (Fn.func f) #[] (caps.map a.eval)) = .func (.func f) #[] (caps.map a.eval).toList.toArray := by rw [Array.toArray_toList]
  rw [hto]
  have := RC.fn (w := w) (T := T) f (ys.map (ev E)) (caps.map a.eval).toList (by simpa using hl.symm) (fun x hx => (hall x hx).1) (fun i x c hi hc => by
    obtain ⟨u, hu, hrv⟩ := hev i x hi
    have : u = c := by
      have hc' : (caps.map a.eval)[i]? = some c := by simpa using hc
      rw [hu] at hc'
      exact Option.some.inj hc'
    subst this
    have hx := hall x (List.mem_of_getElem? hi)
    exact rv_cell hrv hx.1 hx.2)
  exact this

/-- the cells of a struct's literal -/
theorem fill_ok {n : Nat} (zero : List Value) : ∀ (parts : List (Nat × Value)) (cs : Array Value), (∀ p ∈ parts, p.1 < n ∧ p.2.oneCell' = true) → cs.size = n → (parts.map (·.1)).Nodup →
    ∃ cs' : Array Value, Instr.fill (fun i => if i < n then some (i, 1) else none) cs parts = some cs' ∧ cs'.size = n ∧
      ∀ i, i < n → cs'[i]? = match parts.find? (·.1 == i) with | some p => some p.2 | none => cs[i]?
  | [], cs, _, hs, _ => ⟨cs, rfl, hs, fun i _ => by simp⟩
  | (j, v) :: rest, cs, hp, hs, hnd => by
    have hj := hp (j, v) (List.mem_cons_self)
    have hv : v.cells = #[v] := by
      have := hj.2
      cases v <;> simp_all [Value.cells, Value.oneCell']
    simp only [List.map_cons, List.nodup_cons] at hnd
    obtain ⟨cs', hc, hs', hall⟩ := fill_ok zero rest (cs.setIfInBounds j v) (fun p hp' => hp p (List.mem_cons_of_mem _ hp')) (by simpa using hs) hnd.2
    refine ⟨cs', ?_, hs', fun i hi => ?_⟩
    · simp only [Instr.fill, hj.1, if_true, hv]
      have : ¬ (j + 1 > cs.size) := by have := hj.1; simp at this; omega
      simp [this]
      exact hc
    · rw [hall i hi]
      by_cases hij : j = i
      · subst hij
        have hnone : rest.find? (·.1 == j) = none := by
          rw [List.find?_eq_none]
          intro p hp' he
          exact hnd.1 (List.mem_map.2 ⟨p, hp', by simpa using he⟩)
        have hjs : j < cs.size := by omega
        simp [hnone, hjs]
      · have : (j == i) = false := by simpa using hij
        simp [this]
        split
        · rfl
        · simp [Array.getElem?_setIfInBounds_ne hij]

theorem places_ok : ∀ (fs : List Field) (k : Nat), (∀ p ∈ fs.zipIdx k, p.1.offset = p.2 ∧ szT P p.1.type = some 1) →
    fs.mapM (fun f => (P.info? f.type).map fun i => (f.offset, i.size)) = some ((List.range' k fs.length).map fun i => (i, 1))
  | [], _, _ => by simp
  | f :: fs, k, h => by
    have h0 := h (f, k) (by simp)
    obtain ⟨i, hi, h1⟩ := Option.map_eq_some_iff.1 h0.2
    have ih := places_ok fs (k + 1) (fun p hp => h p (by simp [hp]))
    simp only [List.mapM_cons, hi, ih]
    have h2 : f.offset = k := h0.1
    simp [h2, h1, List.range'_succ]

theorem partsOk_spec {zero : List Value} {parts : List (Nat × Operand)} : ∀ (xs : List Opd) (k : Nat), partsOk nt zero parts k xs = true → ∀ (i : Nat) (x : Opd), xs[i]? = some x →
    (∃ p, parts.find? (·.1 == k + i) = some p ∧ mOpd nt p.2 x = true) ∨ (parts.find? (·.1 == k + i) = none ∧ ∃ z y, zero[k + i]? = some z ∧ x = .c y ∧ constV0 z y = true ∧ y.isAgg = false)
  | [], _, _, i, x, hx => by simp at hx
  | y :: xs, k, h, i, x, hx => by
    simp only [partsOk, Bool.and_eq_true] at h
    cases i with
    | zero =>
      obtain rfl : y = x := by simpa using hx
      simp only [Nat.add_zero]
      cases hf : parts.find? (·.1 == k) with
      | some p => rw [hf] at h; exact .inl ⟨p, rfl, h.1⟩
      | none =>
        rw [hf] at h
        refine .inr ⟨rfl, ?_⟩
        have h1 := h.1
        dsimp only at h1
        split at h1 <;> first | (cases h1; done) | skip
        simp only [Bool.and_eq_true, Bool.not_eq_true'] at h1
        exact ⟨_, _, by assumption, rfl, h1.1, h1.2⟩
    | succ i =>
      have := partsOk_spec xs (k + 1) h.2 i x (by simpa using hx)
      rw [show k + 1 + i = k + (i + 1) by omega] at this
      exact this

theorem find_map {parts : List (Nat × Operand)} (g : Operand → Value) (i : Nat) : (parts.map fun p => (p.1, g p.2)).find? (·.1 == i) = (parts.find? (·.1 == i)).map fun p => (p.1, g p.2) := by
  induction parts with
  | nil => rfl
  | cons p ps ih =>
    simp only [List.map_cons, List.find?_cons]
    split <;> simp_all

theorem q_bld {d : Nat} {ys : List Opd} (hr : Rel w T nt E a) (hm : mOp P nt o (.bld d ys) = true) (h : vq E H (.bld d ys) K) :
    ∃ d x u, o.dst = some d ∧ d < nt ∧ K d x ∧ RV w T x u ∧ Quiet P w false o a u := by
  obtain ⟨h1, h2, h3⟩ := mOp_dst hm rfl
  obtain ⟨t, parts, fs, ti, zs, hu, hi, hfl, hfs, hz, hzs, hpo, hnd, hlt, hop⟩ : ∃ t parts, ∃ fs : Array Field, ∃ ti, ∃ zs : Array Value, P.underlying t = some (.struct fs) ∧ P.info? t = some ti ∧ fs.size = ys.length ∧
      (∀ p ∈ fs.toList.zipIdx, p.1.offset = p.2 ∧ szT P p.1.type = some 1) ∧ ti.zero = some (.agg zs) ∧ zs.size = ys.length ∧ partsOk nt zs.toList parts.toList 0 ys = true ∧ (parts.toList.map (·.1)).Nodup ∧ (∀ p ∈ parts.toList, p.1 < ys.length) ∧ o.op = .build t parts := by
    generalize o.op = op at *
    cases op <;> first | (simp [mOp2, VOp.base, mOp1] at h3; done) | skip
    rename_i t parts
    simp only [mOp2, VOp.base, mOp1, Bool.and_eq_true, decide_eq_true_eq, List.all_eq_true] at h3
    obtain ⟨⟨h4, h5⟩, h6⟩ := h3
    split at h4 <;> first | (cases h4; done) | skip
    simp only [Bool.and_eq_true, beq_iff_eq, List.all_eq_true] at h4
    obtain ⟨⟨h7, h8⟩, h9⟩ := h4
    split at h9 <;> first | (cases h9; done) | skip
    simp only [Bool.and_eq_true, beq_iff_eq] at h9
    exact ⟨t, parts, _, _, _, by assumption, by assumption, h7, h8, by assumption, h9.1, h9.2, h5, h6, rfl⟩
  obtain ⟨hall, hK⟩ := h
  -- what stands in each place
  have hpl : ∀ (i : Nat) (y : Opd), ys[i]? = some y → ∃ u, (match parts.toList.find? (·.1 == i) with | some p => some (a.eval p.2) | none => zs[i]?) = some u ∧ RC w T (ev E y) [u] ∧ (ev E y).isAgg = false := by
    intro i y hy
    have hx := hall (ev E y) (List.mem_map.2 ⟨y, List.mem_of_getElem? hy, rfl⟩)
    rcases partsOk_spec ys 0 hpo i y hy with ⟨p, hp, hm'⟩ | ⟨hp, z, c, hz', rfl, hc, hna⟩
    · rw [Nat.zero_add] at hp
      rw [hp]
      exact ⟨_, rfl, rv_cell (hr.ev hm') hx.1 hx.2, hx.1⟩
    · rw [Nat.zero_add] at hp hz'
      rw [hp]
      exact ⟨z, by simpa using hz', constV0_ok hc, hx.1⟩
  have hone : ∀ p ∈ parts.toList.map (fun p => (p.1, a.eval p.2)), p.1 < ys.length ∧ p.2.oneCell' = true := by
    intro p hp
    obtain ⟨q, hq, rfl⟩ := List.mem_map.1 hp
    refine ⟨hlt q hq, ?_⟩
    have hq' : q.1 < ys.length := hlt q hq
    obtain ⟨u, hu', hrc, _⟩ := hpl q.1 ys[q.1] (List.getElem?_eq_getElem hq')
    have hf : parts.toList.find? (·.1 == q.1) = some q := by
      have hex : (parts.toList.find? (·.1 == q.1)).isSome = true := by
        rw [List.find?_isSome]
        exact ⟨q, hq, by simp⟩
      obtain ⟨q', hq'⟩ := Option.isSome_iff_exists.1 hex
      have he : q'.1 = q.1 := by simpa using List.find?_some hq'
      have hm' := List.mem_of_find?_eq_some hq'
      have : q' = q := by
        obtain ⟨i, hi⟩ := List.mem_iff_getElem?.1 hm'
        obtain ⟨j, hj⟩ := List.mem_iff_getElem?.1 hq
        have hmi : (parts.toList.map (·.1))[i]? = some q.1 := by rw [List.getElem?_map, hi]; simp [he]
        have hmj : (parts.toList.map (·.1))[j]? = some q.1 := by rw [List.getElem?_map, hj]; simp
        have hil := (List.getElem?_eq_some_iff.1 hmi).1
        have hij : i = j := (List.getElem?_inj hil hnd).1 (hmi.trans hmj.symm)
        subst hij
        rw [hi] at hj
        exact Option.some.inj hj
      rw [hq', this]
    rw [hf] at hu'
    obtain rfl : a.eval q.2 = u := Option.some.inj hu'
    exact hrc.one _ (List.mem_singleton.2 rfl)
  obtain ⟨cs, hfill, hcs, hcell⟩ := fill_ok (n := ys.length) [] (parts.toList.map fun p => (p.1, a.eval p.2)) zs hone hzs (by simpa [List.map_map, Function.comp_def] using hnd)
  have hplace := places_ok (P := P) fs.toList 0 hfs
  have hbuilt : P.built t (parts.toList.map fun p => (p.1, a.eval p.2)) = some cs := by
    simp only [Program.built, hi, hu, hz, hplace]
    rw [← hfill]
    have : (fun x => ((List.range' 0 fs.toList.length).map fun i => ((i, 1) : Nat × Nat)).toArray[x]?) = fun i => if i < ys.length then some (i, 1) else none := by
      funext i
      simp only [List.getElem?_toArray, List.getElem?_map]
      by_cases hi' : i < ys.length
      · rw [if_pos hi', List.getElem?_range' (by simpa [hfl] using hi')]
        simp
      · rw [if_neg hi', List.getElem?_eq_none (by simpa [hfl] using hi')]
        rfl
    rw [this]
    rfl
  refine ⟨d, _, .agg cs, h1, h2, hK, ⟨cs, rfl, ?_⟩, fun w' _ => ?_⟩
  · refine RC.agg _ _ (by simpa using hcs.symm) (fun f hf => (hall f hf).1) (fun i f c hf hc => ?_)
    rw [List.getElem?_map] at hf
    obtain ⟨y, hy, rfl⟩ := Option.map_eq_some_iff.1 hf
    have hlt' : i < ys.length := (List.getElem?_eq_some_iff.1 hy).1
    obtain ⟨u, hu', hrc, _⟩ := hpl i y hy
    have := hcell i hlt'
    rw [find_map] at this
    have hc' : cs[i]? = some c := by simpa using hc
    rw [hc'] at this
    cases hf' : parts.toList.find? (·.1 == i) with
    | some p =>
      rw [hf'] at this hu'
      simp only [Option.map_some] at this
      obtain rfl := Option.some.inj this
      obtain rfl : a.eval p.2 = u := Option.some.inj hu'
      exact hrc
    | none =>
      rw [hf'] at this hu'
      simp only [Option.map_none] at this
      change zs[i]? = some u at hu'
      rw [hu'] at this
      obtain rfl := Option.some.inj this
      exact hrc
  · have hb := run_build (P := P) w' t (parts.map fun (i, x) => (i, a.eval x)) cs (by simpa using hbuilt)
    simp only [execOp, hop, Sem.run_bind, hb]
    simp

theorem q_neg {d : Nat} {y : Opd} (hr : Rel w T nt E a) (hm : mOp P nt o (.neg d y) = true) (h : vq E H (.neg d y) K) :
    ∃ d x u, o.dst = some d ∧ d < nt ∧ K d x ∧ RV w T x u ∧ Quiet P w false o a u := by
  obtain ⟨h1, h2, h3⟩ := mOp_dst hm rfl
  obtain ⟨t, x, hx, hop⟩ : ∃ t x, mOpd nt x y = true ∧ o.op = .unOp .neg t x := by
    generalize o.op = op' at *
    cases op' <;> first | (simp [mOp2, VOp.base, mOp1] at h3; done) | skip
    rename_i op t x
    cases op <;> first | (simp [mOp2, VOp.base, mOp1] at h3; done) | skip
    exact ⟨t, x, h3, rfl⟩
  obtain ⟨k, n, hb, hK⟩ := h
  have hv := hr.ev hx
  rw [hb] at hv
  refine ⟨d, _, .int k (k.wrap (-n)), h1, h2, hK, RC.int _ _, fun w' _ => ?_⟩
  simp [execOp, hop, hv.int_inv, Op.unary, Op.intArith]

theorem q_isnil {d : Nat} {ne : Bool} {y : Opd} (hr : Rel w T nt E a) (hm : mOp P nt o (.isnil d ne y) = true) (h : vq E H (.isnil d ne y) K) :
    ∃ d x u, o.dst = some d ∧ d < nt ∧ K d x ∧ RV w T x u ∧ Quiet P w false o a u := by
  obtain ⟨h1, h2, h3⟩ := mOp_dst hm rfl
  obtain ⟨op, t, e, x1, t2, hx, hu, he, hop⟩ : ∃ op t e x1 t2, mOpd nt x1 y = true ∧ P.underlying t = some (.slice e) ∧ op = (if ne = true then .neq else .eql) ∧ o.op = .binOp op t x1 (.const (.slice none 0 0)) t2 := by
    generalize o.op = op' at *
    cases op' <;> first | (simp [mOp2, mNil] at h3; done) | skip
    rename_i op t x1 x2 t2
    simp only [mOp2, mNil, Bool.and_eq_true, decide_eq_true_eq] at h3
    obtain ⟨⟨⟨he, hu⟩, hx⟩, hy⟩ := h3
    unfold isSl at hu
    split at hu <;> first | (cases hu; done) | skip
    split at hy <;> first | (cases hy; done) | skip
    exact ⟨op, t, _, x1, t2, hx, by assumption, he, rfl⟩
  have hvx := hr.ev hx
  have run : ∀ (ad : Option Addr) (l1 c1 : Nat), a.eval x1 = .slice ad l1 c1 → ∀ w', (execOp a.eval o).run P w' = .ok (.value (.bool (if ne = true then !ad.isNone else ad.isNone))) w' := by
    intro ad l1 c1 hav w'
    subst he
    have e1 := run_equal_slice_nil (P := P) w' t e ad l1 c1 hu
    have ec : a.eval (.const (.slice none 0 0)) = .slice none 0 0 := rfl
    simp only [execOp, hop, hav, ec]
    cases ne <;> simp [eqGuard, binOp, e1]
  simp only [vq] at h
  generalize ev E y = vy at *
  cases vy <;> first | (exact h.elim) | skip
  · obtain ⟨ad, hav⟩ := hvx.emp_inv
    exact ⟨d, _, _, h1, h2, h _, RC.bool _, fun w' _ => run ad 0 0 hav w'⟩
  · rename_i t0 len xs
    obtain ⟨ad, cap, s, cells, hav, _, _, _, _, hne, ht, _⟩ := hvx.lsl_inv
    have some_case : ad ≠ none → K d (.bool ne) → ∃ d x u, o.dst = some d ∧ d < nt ∧ K d x ∧ RV w T x u ∧ Quiet P w false o a u := fun hs hK => by
      refine ⟨d, _, _, h1, h2, hK, RC.bool _, fun w' _ => ?_⟩
      have := run ad len cap hav w'
      have hn : ad.isNone = false := by cases ad <;> simp_all
      rw [hn] at this
      rw [this]
      cases ne <;> rfl
    cases t0 with
    | none =>
      cases xs with
      | nil => exact ⟨d, _, _, h1, h2, h _, RC.bool _, fun w' _ => run ad len cap hav w'⟩
      | cons x xs =>
        obtain ⟨g, off, ha, _⟩ := hne (by simp)
        exact some_case (by rw [ha]; simp) h
    | some p =>
      obtain ⟨_, _, ha, _⟩ := ht p.1 p.2 rfl
      exact some_case (by rw [ha]; simp) h
  · obtain ⟨cap, hav, _⟩ := hvx.own_inv
    refine ⟨d, _, _, h1, h2, h, RC.bool _, fun w' _ => ?_⟩
    rw [run _ _ _ hav w']
    cases ne <;> rfl

theorem u8s_spec : ∀ {xs : List AV} {ns : List Int}, u8s xs = some ns → xs = ns.map (.int .u8)
  | [], ns, h => by
    simp [u8s] at h
    subst h
    rfl
  | x :: xs, ns, h => by
    cases x <;> first | (simp [u8s] at h; done) | skip
    rename_i k n
    cases k <;> first | (simp [u8s] at h; done) | skip
    simp only [u8s] at h
    obtain ⟨ms, hms, rfl⟩ := Option.map_eq_some_iff.1 h
    rw [u8s_spec hms]
    rfl

theorem q_b2s {d : Nat} {y : Opd} (hH : ∀ d k, H d = some k → BOK w T base k) (hr : Rel w T nt E a) (hm : mOp P nt o (.b2s d y) = true) (h : vq E H (.b2s d y) K) :
    ∃ d x u, o.dst = some d ∧ d < nt ∧ K d x ∧ RV w T x u ∧ Quiet P w true o a u := by
  obtain ⟨h1, h2, h3⟩ := mOp_dst hm rfl
  obtain ⟨t, t2, e, x1, ht, he, ht2, hx, hop⟩ : ∃ t t2 e x1, P.underlying t = some (.slice e) ∧ P.underlying e = some (.int .u8) ∧ P.underlying t2 = some .string ∧ mOpd nt x1 y = true ∧ o.op = .convert t t2 x1 := by
    generalize o.op = op' at *
    cases op' <;> first | (simp [mOp2, VOp.base, mOp1] at h3; done) | skip
    simp only [mOp2, VOp.base, mOp1, Bool.and_eq_true] at h3
    obtain ⟨⟨h4, h5⟩, h6⟩ := h3
    split at h4 <;> first | (cases h4; done) | skip
    rename_i e he
    split at h4 <;> first | (cases h4; done) | skip
    rename_i he2
    unfold isStr at h5
    split at h5 <;> first | (cases h5; done) | skip
    exact ⟨_, _, _, _, he, he2, by assumption, h6, rfl⟩
  have hvx := hr.ev hx
  simp only [vq] at h
  generalize ev E y = vy at *
  cases vy <;> first | (exact h.elim) | skip
  rename_i d' b s len
  obtain ⟨k, hk, rfl, rfl, hs1, hl, ns, hns, hK⟩ := h
  obtain ⟨cap, hav, _⟩ := hvx.own_inv
  obtain ⟨hlow, hpos, c, e', hh, hlen, _, hall⟩ := hH d' k hk
  have hxs := u8s_spec hns
  have hnl : ns.length = len := by
    have := congrArg List.length hxs
    simp only [List.length_take, List.length_map] at this
    omega
  refine ⟨d, _, .string (bytesOf ns), h1, h2, hK, RC.str _, fun w' hb => ?_⟩
  have hcell : ∀ i, i < len → w'.cell? ⟨k.b, 0 + i, none⟩ = some (.int .u8 (ns.getD i 0)) := fun i hi => by
    have hx1 : k.xs[i]? = some (.int .u8 (ns.getD i 0)) := by
      have h0 : (k.xs.take len)[i]? = (ns.map (AV.int .u8))[i]? := by rw [hxs]
      rw [List.getElem?_take, if_pos hi, List.getElem?_map, List.getElem?_eq_getElem (l := ns) (i := i) (by omega)] at h0
      rw [h0]
      simp [List.getD_eq_getElem?_getD, List.getElem?_eq_getElem (show i < ns.length by omega)]
    obtain ⟨cs, g1, g2, g3⟩ := hall i _ hx1
    cases g2
    refine below_cell (hb rfl) ?_
    have := g3 0 _ rfl
    rw [hs1] at this
    simp only [Nat.mul_one, Nat.add_zero] at this
    simp only [World.cell?, hh, Nat.zero_add, this]
    simp
  have := run_convert_bytes_arg (P := P) w' t e ht he k.b 0 len cap ns hnl hcell t2 ht2
  simp only [execOp, hop, hav, Sem.run_bind, this, Result.andThen_ok]
  rfl

/-- Every quiet operation. -/
theorem vq_sound {vo : VOp} (hH : ∀ d k, H d = some k → BOK w T base k) (hr : Rel w T nt E a) (hm : mOp P nt o vo = true) (h : vq E H vo K) :
    ∃ d x u, o.dst = some d ∧ d < nt ∧ K d x ∧ RV w T x u ∧ Quiet P w vo.mem o a u := by
  cases vo <;> first
    | exact q_mv hr hm h
    | exact q_bin hr hm h
    | exact q_not hr hm h
    | exact q_pick hr hm h
    | exact q_len hr hm h
    | exact q_idx hr hm h
    | exact q_idxA hr hm h
    | exact q_fldA hr hm h
    | exact q_ld hH hr hm h
    | exact q_slc hH hr hm h
    | exact q_slc0 hr hm h
    | exact q_ext hr hm h
    | exact q_fld hr hm h
    | exact q_bld hr hm h
    | exact q_conv hr hm h
    | exact q_mx hr hm h
    | exact q_beq hr hm h
    | exact q_mkf hr hm h
    | exact q_nilck hr hm h
    | exact q_neg hr hm h
    | exact q_isnil hr hm h
    | exact q_b2s hH hr hm h
    | exact h.elim
end
end Go.AVM
