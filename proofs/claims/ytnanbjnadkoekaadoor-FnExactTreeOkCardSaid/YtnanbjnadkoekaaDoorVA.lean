/- An abstract machine over plain lists: its values, its operations and the rules by which a function's text is run on them. Definitions alone. -/
import Derived.Orders
import Derived.Below
namespace Go.AVM
set_option linter.unusedSimpArgs false

inductive AV where
  | undef
  | bool (b : Bool)
  | int (k : IntKind) (n : Int)
  | str (s : ByteArray)
  | agg (fs : List AV)
  | emp
  | lsl (t : Option (Nat × Nat)) (len : Nat) (xs : List AV)
  | own (d b s len : Nat)
  | lptr (x : AV)
  | optr (d b s i : Nat) (f : Option Nat)
  | fn (f : FuncId) (cap : List AV)
  | tup (vs : List AV)
  /-- all that is in it lies in blocks below B -/
  | old (B : Nat) (x : AV)
  deriving Inhabited

structure Blk where
  b : Nat
  s : Nat
  xs : List AV
  fz : Bool
  row : Bool
  /-- no room behind the elements -/
  ex : Bool

abbrev Env := Nat → AV
abbrev Hp := Nat → Option Blk

def upd (E : Env) (d : Nat) (v : AV) : Env := fun t => if t = d then v else E t
def updH (H : Hp) (d : Nat) (v : Option Blk) : Hp := fun t => if t = d then v else H t

inductive Opd where
  | t (n : Nat)
  | c (v : AV)
  deriving Inhabited

def ev (E : Env) : Opd → AV
  | .t n => E n
  | .c v => v

def AV.isAgg : AV → Bool
  | .agg _ => true
  | _ => false

/-- how many cells an element takes; 0 where it can't be told -/
def AV.sz : AV → Nat
  | .agg fs => fs.length
  | .undef => 0
  | .tup _ => 0
  | .old _ _ => 0
  | _ => 1

/-- a value that no cell of its own stands behind -/
def AV.scal0 : AV → Bool
  | .bool _ | .int _ _ | .str _ => true
  | _ => false
def AV.scal : AV → Bool
  | .bool _ | .int _ _ | .str _ | .undef => true
  | .tup vs => vs.all AV.scal0
  | _ => false

inductive VOp where
  | mv (d : Nat) (x : Opd)
  | bin (d : Nat) (op : BinOp) (x y : Opd)
  | not (d : Nat) (x : Opd)
  | beq (d : Nat) (neg : Bool) (x y : Opd)
  | pick (d : Nat) (c x y : Opd)
  | len (d : Nat) (str : Bool) (x : Opd)
  | idx (d : Nat) (x i : Opd)
  | idxA (d s : Nat) (x i : Opd)
  | fldA (d : Nat) (x : Opd) (f : Nat)
  | ld (d : Nat) (x : Opd) (sz : Option Nat)
  | slc (d s : Nat) (x : Opd) (lo hi : Option Opd)
  | slc0 (d : Nat) (x : Opd)
  | ext (d : Nat) (x : Opd) (i : Nat)
  | fld (d : Nat) (x : Opd) (f : Nat)
  | bld (d : Nat) (xs : List Opd)
  | conv (d : Nat) (k : IntKind) (x : Opd)
  | mx (d : Nat) (gt : Bool) (x y : Opd)
  | mkf (d f : Nat) (caps : List Opd)
  | nilck (d : Nat) (x : Opd)
  | neg (d : Nat) (x : Opd)
  | isnil (d : Nat) (ne : Bool) (x : Opd)
  -- an empty literal, and what is put behind it: in whatever order among themselves
  | uem (d s : Nat)
  | ucl (d s : Nat) (x y : Opd) (bytes : Nat)
  | uend
  -- the ones that make or write memory, or call
  | alc (d s : Nat) (z : AV)
  | box (d s : Nat) (x : Opd)
  | mks (d s : Nat) (n : Opd) (z : AV) (bytes : Nat)
  | bls (d s : Nat) (xs : List Opd) (kp : Bool)
  | st (x v : Opd) (sz : Option Nat)
  | app (d s : Nat) (x y : Opd) (bytes : Nat) (fr kp : Bool)
  | b2s (d : Nat) (x : Opd)
  | call (d : Nat) (f : Opd) (xs : List Opd) (imp fl : Bool)
  | callm (d : Nat) (f : Opd) (xs : List Opd)
  deriving Inhabited

structure GOp where
  g : Option (Nat × Bool)
  o : VOp

inductive VC where
  | skip
  | reg (ops : List GOp) (ord : List Nat)
  | seq (a b : VC)
  | cond (c : Opd) (a b : VC)
  | block (id : Nat) (c : VC)
  | loop (c : VC)
  | exit (id : Nat)
  | ret
  /-- a step of the proof alone -/
  | ghost (c : VC)
  /-- code that is not told, and not to be reached -/
  | stuck

inductive VX where
  | normal
  | exit (id : Nat)
  | ret

/-! ### what the quiet operations give -/
def binv : BinOp → AV → AV → Option AV
  | .add, .int k a, .int j b => if k = j then some (.int k (k.wrap (a + b))) else none
  | .sub, .int k a, .int j b => if k = j then some (.int k (k.wrap (a - b))) else none
  | .mul, .int k a, .int j b => if k = j then some (.int k (k.wrap (a * b))) else none
  | .quo, .int k a, .int j b => if k = j ∧ b ≠ 0 then some (.int k (k.wrap (a.tdiv b))) else none
  | .rem, .int k a, .int j b => if k = j ∧ b ≠ 0 then some (.int k (a.tmod b)) else none
  | .xor, .int k a, .int j b => if k = j then some (.int k (k.wrap (BitVec.ofInt k.bits a ^^^ BitVec.ofInt k.bits b).toNat)) else none
  | .shr, .int k a, .int _ b => if 0 ≤ b then some (.int k (a.fdiv (2 ^ min b.toNat k.bits))) else none
  | .eql, .int k a, .int j b => if k = j then some (.bool (a == b)) else none
  | .neq, .int k a, .int j b => if k = j then some (.bool (a != b)) else none
  | .lss, .int k a, .int j b => if k = j then some (.bool (a < b)) else none
  | .leq, .int k a, .int j b => if k = j then some (.bool (a ≤ b)) else none
  | .gtr, .int k a, .int j b => if k = j then some (.bool (a > b)) else none
  | .geq, .int k a, .int j b => if k = j then some (.bool (a ≥ b)) else none
  | .add, .str a, .str b => if (a.size + b.size : Nat) ≤ 9223372036854775807 then some (.str (a ++ b)) else none
  | .eql, .str a, .str b => some (.bool (a.toList == b.toList))
  | .neq, .str a, .str b => some (.bool (!(a.toList == b.toList)))
  | .lss, .str a, .str b => some (.bool (Op.bytesLess a.toList b.toList))
  | .leq, .str a, .str b => some (.bool (Op.bytesLess a.toList b.toList || a.toList == b.toList))
  | .gtr, .str a, .str b => some (.bool (!(Op.bytesLess a.toList b.toList || a.toList == b.toList)))
  | .geq, .str a, .str b => some (.bool (!(Op.bytesLess a.toList b.toList)))
  | _, _, _ => none

def lenv : Bool → AV → Option Nat
  | true, .str s => some s.size
  | false, .emp => some 0
  | false, .lsl _ len _ => some len
  | false, .own _ _ _ len => some len
  | _, _ => none

def u8s : List AV → Option (List Int)
  | [] => some []
  | .int .u8 n :: xs => (u8s xs).map (n :: ·)
  | _ => none
def bytesOf (ns : List Int) : ByteArray := ⟨(ns.map fun n => UInt8.ofNat n.toNat).toArray⟩
/-- A quiet operation: the slot that it writes and the value, in the way of a continuation. -/
def vq (E : Env) (H : Hp) : VOp → (Nat → AV → Prop) → Prop
  | .mv d x, K => K d (ev E x)
  | .bin d op x y, K => ∃ v, binv op (ev E x) (ev E y) = some v ∧ K d v
  | .not d x, K => ∃ b, ev E x = .bool b ∧ K d (.bool (!b))
  | .beq d neg x y, K => ∃ a b, ev E x = .bool a ∧ ev E y = .bool b ∧ K d (.bool (if neg = true then !(a == b) else (a == b)))
  | .pick d c x y, K => ∃ b, ev E c = .bool b ∧ K d (if b = true then ev E x else ev E y)
  | .len d b x, K => ∃ n, lenv b (ev E x) = some n ∧ K d (.int .i64 n)
  | .idx d x i, K => match ev E x, ev E i with
    | .str s, .int _ i => ∃ c, s.data[i.toNat]? = some c ∧ 0 ≤ i ∧ K d (.int .u8 c.toNat)
    | _, _ => False
  | .idxA d s x i, K => match ev E x, ev E i with
    | .lsl _ len xs, .int _ i => ∃ y, xs[i.toNat]? = some y ∧ 0 ≤ i ∧ i < len ∧ y.sz = s ∧ K d (.lptr y)
    | .own d' b s' len, .int _ i => 0 ≤ i ∧ i < len ∧ s' = s ∧ K d (.optr d' b s i.toNat none)
    | _, _ => False
  | .fldA d x f, K => match ev E x with
    | .lptr (.agg fs) => ∃ y, fs[f]? = some y ∧ y.isAgg = false ∧ y.sz = 1 ∧ K d (.lptr y)
    | .optr d' b s i none => f < s ∧ K d (.optr d' b s i (some f))
    | _ => False
  | .ld d x sz, K => match ev E x with
    | .lptr y => (match sz with | none => y.isAgg = false ∧ y.sz = 1 | some m => ∃ fs, y = .agg fs ∧ fs.length = m) ∧ K d y
    | .optr d' b s i none => ∃ k, H d' = some k ∧ k.b = b ∧ k.s = s ∧ ∃ y, k.xs[i]? = some y ∧
        (match sz with | none => y.isAgg = false ∧ s = 1 | some m => ∃ fs, y = .agg fs ∧ fs.length = m) ∧ K d y
    | .optr d' b s i (some f) => ∃ k, H d' = some k ∧ k.b = b ∧ k.s = s ∧ ∃ fs, k.xs[i]? = some (.agg fs) ∧ ∃ y, fs[f]? = some y ∧ y.isAgg = false ∧ sz = none ∧ K d y
    | _ => False
  | .slc d s x lo hi, K => match ev E x, lo.map (ev E), hi.map (ev E) with
    | .str v, none, some (.int _ h) => s = 0 ∧ 0 ≤ h ∧ h ≤ v.size ∧ K d (.str (v.extract 0 h.toNat))
    | .str v, some (.int _ l), none => s = 0 ∧ 0 ≤ l ∧ l ≤ v.size ∧ K d (.str (v.extract l.toNat v.size))
    | .str v, some (.int _ l), some (.int _ h) => s = 0 ∧ 0 ≤ l ∧ l ≤ h ∧ h ≤ v.size ∧ K d (.str (v.extract l.toNat h.toNat))
    | .lsl t _ xs, none, some (.int _ h) => 0 < s ∧ 0 ≤ h ∧ h ≤ xs.length ∧ K d (.lsl t h.toNat xs)
    | .lsl _ len xs, some (.int _ l), none => 0 < s ∧ 0 ≤ l ∧ l ≤ len ∧ (∀ y, xs.head? = some y → y.sz = s) ∧ K d (.lsl none (len - l.toNat) (xs.drop l.toNat))
    | .lsl _ _ xs, some (.int _ l), some (.int _ h) => 0 < s ∧ 0 ≤ l ∧ l ≤ h ∧ h ≤ xs.length ∧ (∀ y, xs.head? = some y → y.sz = s) ∧ K d (.lsl none (h.toNat - l.toNat) (xs.drop l.toNat))
    | .own d' b s' _, none, some (.int _ h) => 0 < s ∧ ∃ k, H d' = some k ∧ k.b = b ∧ k.s = s' ∧ 0 ≤ h ∧ h ≤ k.xs.length ∧ K d (.own d' b s' h.toNat)
    | .emp, none, some (.int _ 0) => 0 < s ∧ K d .emp
    | _, _, _ => False
  | .slc0 d x, K => match ev E x with
    | .lsl _ _ _ | .own _ _ _ _ | .emp => K d .emp
    | _ => False
  | .ext d x i, K => ∃ vs, ev E x = .tup vs ∧ ∃ y, vs[i]? = some y ∧ K d y
  | .fld d x f, K => ∃ fs, ev E x = .agg fs ∧ ∃ y, fs[f]? = some y ∧ y.isAgg = false ∧ K d y
  | .bld d xs, K => (∀ x ∈ xs.map (ev E), x.isAgg = false ∧ x.sz = 1) ∧ K d (.agg (xs.map (ev E)))
  | .conv d k x, K => ∃ j n, ev E x = .int j n ∧ K d (.int k (k.wrap n))
  | .mx d gt x y, K => ∃ k a b, ev E x = .int k a ∧ ev E y = .int k b ∧ K d (.int k (if gt = true then (if b > a then b else a) else (if b < a then b else a)))
  | .mkf d f caps, K => (∀ x ∈ caps.map (ev E), x.isAgg = false ∧ x.sz = 1) ∧ K d (.fn f (caps.map (ev E)))
  | .nilck d x, K => match ev E x with
    | .lptr y => K d (.lptr y)
    | .optr d' b s i f => K d (.optr d' b s i f)
    | .fn f c => K d (.fn f c)
    | _ => False
  | .isnil d ne x, K => match ev E x with
    | .emp => ∀ b, K d (.bool b)
    | .lsl none _ [] => ∀ b, K d (.bool b)
    | .lsl _ _ _ => K d (.bool ne)
    | .own _ _ _ _ => K d (.bool ne)
    | _ => False
  | .neg d x, K => ∃ k n, ev E x = .int k n ∧ K d (.int k (k.wrap (-n)))
  | .b2s d x, K => match ev E x with
    | .own d' b s len => ∃ k, H d' = some k ∧ k.b = b ∧ k.s = s ∧ s = 1 ∧ len ≤ k.xs.length ∧ ∃ ns, u8s (k.xs.take len) = some ns ∧ K d (.str (bytesOf ns))
    | _ => False
  | _, _ => False

/-! ### own slices made firm; what a callee is handed -/
def sol1 (H : Hp) : AV → (AV → Hp → Prop) → Prop
  | .own d b s len, K => ∃ k, H d = some k ∧ k.b = b ∧ k.s = s ∧ len ≤ k.xs.length ∧ K (.lsl (some (b, s)) len k.xs) (updH H d none)
  | .optr .., _ => False
  | .fn .., _ => False
  | .tup _, _ => False
  | .agg _, _ => False
  | .undef, _ => False
  | .old _ _, _ => False
  | v, K => K v H
def sols (H : Hp) : List AV → (List AV → Hp → Prop) → Prop
  | [], K => K [] H
  | v :: vs, K => sol1 H v fun v' H' => sols H' vs fun vs' H'' => K (v' :: vs') H''
def sol (H : Hp) : AV → (AV → Hp → Prop) → Prop
  | .agg fs, K => sols H fs fun fs' H' => K (.agg fs') H'
  | v, K => sol1 H v K
def solE (H : Hp) : List AV → (List AV → Hp → Prop) → Prop
  | [], K => K [] H
  | v :: vs, K => sol H v fun v' H' => solE H' vs fun vs' H'' => K (v' :: vs') H''

/-- a plain value as a callee reads it; the keys of the own blocks that it reads are gathered -/
def rd1 (fl : Bool) (H : Hp) : AV → (AV → List Nat → Prop) → Prop
  | .own d b s len, K => ∃ k, H d = some k ∧ k.b = b ∧ k.s = s ∧ len ≤ k.xs.length ∧ K (.lsl none len (if fl = true then k.xs else k.xs.take len)) [d]
  | .lsl _ len xs, K => K (.lsl none len (if fl = true then xs else xs.take len)) []
  | .emp, K => K (.lsl none 0 []) []
  | .bool b, K => K (.bool b) []
  | .int k n, K => K (.int k n) []
  | .str s, K => K (.str s) []
  | .lptr x, K => K (.lptr x) []
  | .fn f [], K => K (.fn f []) []
  | _, _ => False
def rds (fl : Bool) (H : Hp) : List AV → (List AV → List Nat → Prop) → Prop
  | [], K => K [] []
  | v :: vs, K => rd1 fl H v fun v' ks => rds fl H vs fun vs' ks' => K (v' :: vs') (ks ++ ks')
def rd2 (fl : Bool) (H : Hp) : AV → (AV → List Nat → Prop) → Prop
  | .agg fs, K => rds fl H fs fun fs' ks => K (.agg fs') ks
  | .optr d b s i none, K => ∃ k, H d = some k ∧ k.b = b ∧ k.s = s ∧ ∃ y, k.xs[i]? = some y ∧ y.sz = s ∧
      (match y with
        | .agg fs => rds fl H fs fun fs' ks => K (.lptr (.agg fs')) (d :: ks)
        | y => rd1 fl H y fun y' ks => K (.lptr y') (d :: ks))
  | v, K => rd1 fl H v K
def rds2 (fl : Bool) (H : Hp) : List AV → (List AV → List Nat → Prop) → Prop
  | [], K => K [] []
  | v :: vs, K => rd2 fl H v fun v' ks => rds2 fl H vs fun vs' ks' => K (v' :: vs') (ks ++ ks')
def rd3 (fl : Bool) (H : Hp) : AV → (AV → List Nat → Prop) → Prop
  | .fn f cap, K => rds2 fl H cap fun cap' ks => K (.fn f cap') ks
  | .old _ x, K => rd2 fl H x K
  | v, K => rd2 fl H v K
def rdA (fl : Bool) (H : Hp) : List AV → (List AV → List Nat → Prop) → Prop
  | [], K => K [] []
  | v :: vs, K => rd3 fl H v fun v' ks => rdA fl H vs fun vs' ks' => K (v' :: vs') (ks ++ ks')

def frz (H : Hp) : List Nat → Hp
  | [] => H
  | d :: ds => match H d with
    | some k => updH (frz H ds) d (some { k with fz := true })
    | none => frz H ds

/-- nothing inside is a row of block b; told by the marks -/
def avoid1 (b : Nat) : AV → Prop
  | .bool _ | .int _ _ | .str _ | .emp => True
  | .lsl t _ xs => (∀ b' s, t = some (b', s) → b' ≠ b) ∧ (xs = [] ∨ t.isSome = true ∧ ∀ x ∈ xs, x.scal = true ∧ x.sz = 1)
  | _ => False
def avoid (b : Nat) : AV → Prop
  | .agg fs => ∀ x ∈ fs, avoid1 b x
  | v => avoid1 b v

/-- The law of a call, as this machine sees it: P's function f, handed these values, gives a result of which R tells (between which blocks, and what it reads as). -/
abbrev Law := List AV → (Nat → Nat → AV → Prop) → Prop
/-- The law of a call that is handed blocks to write. -/
abbrev LawM := List AV → Hp → (Nat → Nat → AV → Hp → Prop) → Prop
structure Laws where
  l : FuncId → Law
  m : FuncId → LawM
  /-- steps of the proof alone: the state told in other words -/
  g : Env → Hp → Nat → Env → Hp → Prop
def givenH (G : Nat → Bool) (H : Hp) : Hp := fun d => if G d = true then H d else none
def backH (G : Nat → Bool) (H H' : Hp) : Hp := fun d => if G d = true then H' d else H d

def impv (imp : Bool) (d lo : Nat) (E : Env) (H : Hp) (r : AV) (K : Env → Hp → Prop) : Prop :=
  match imp, r with
  | true, .lsl (some (b, s)) len xs => len = xs.length ∧ 0 < s ∧ lo ≤ b ∧ (∀ x ∈ xs, avoid b x) ∧ K (upd E d (.own d b s len)) (updH H d (some ⟨b, s, xs, false, true, false⟩))
  | true, .tup (.lsl (some (b, s)) len xs :: rest) => len = xs.length ∧ 0 < s ∧ lo ≤ b ∧ (∀ x ∈ xs, avoid b x) ∧ (∀ x ∈ rest, x.scal = true ∧ x.isAgg = false) ∧ K (upd E d (.tup (.own d b s len :: rest))) (updH H d (some ⟨b, s, xs, false, true, false⟩))
  | _, r => K (upd E d r) H

/-- What an append's second operand brings. -/
def srcOf (E : Env) (H : Hp) (y : Opd) (C : List AV → Prop) : Prop :=
  match ev E y with
  | .lsl _ m ys => m ≤ ys.length ∧ C (ys.take m)
  | .emp => C []
  | .own d' b s' m => ∃ k, H d' = some k ∧ k.b = b ∧ k.s = s' ∧ m ≤ k.xs.length ∧ C (k.xs.take m)
  | _ => False

/-- a firm list's elements -/
def srcF : AV → Option (List AV)
  | .lsl _ m ys => if m ≤ ys.length then some (ys.take m) else none
  | .emp => some []
  | _ => none
/-- An operation that makes or writes memory, or calls. -/
def va (L : Laws) (E : Env) (H : Hp) (n : Nat) : VOp → (Env → Hp → Nat → Prop) → Prop
  | .alc d s z, K => z.sz = s ∧ ∀ b, n ≤ b → K (upd E d (.optr d b s 0 none)) (updH H d (some ⟨b, s, [z], false, false, false⟩)) (b + 1)
  | .box d s x, K => (ev E x).sz = s ∧ 0 < s ∧ ∀ b, n ≤ b → K (upd E d (.optr d b s 0 none)) (updH H d (some ⟨b, s, [ev E x], false, false, false⟩)) (b + 1)
  | .mks d s m z bytes, K => ∃ k l, ev E m = .int k l ∧ 0 ≤ l ∧ l * bytes ≤ 140737488355328 ∧ l ≤ 140737488355328 ∧
      ∃ kk : Nat → Nat, ∀ b, n ≤ b → K (upd E d (.own (kk b) b s l.toNat)) (updH H (kk b) (some ⟨b, s, List.replicate l.toNat z, false, true, true⟩)) (b + 1)
  | .bls d s xs kp, K => if kp = true then (∀ y ∈ xs.map (ev E), y.sz = s) ∧
      ∀ b, n ≤ b → K (upd E d (.own d b s xs.length)) (updH H d (some ⟨b, s, xs.map (ev E), false, false, true⟩)) (b + 1)
    else solE H (xs.map (ev E)) fun ys H' => (∀ y ∈ ys, y.sz = s) ∧
      ∀ b, n ≤ b → K (upd E d (.own d b s ys.length)) (updH H' d (some ⟨b, s, ys, false, true, true⟩)) (b + 1)
  | .st x v sz, K => match ev E x with
    | .optr d b s i f => (f.isSome = true → sz = none) ∧ (match sz with | none => (ev E v).isAgg = false ∧ (ev E v).sz = 1 | some m => ∃ fs, ev E v = .agg fs ∧ fs.length = m) ∧
      ∃ k0, H d = some k0 ∧ (if k0.row = true then sol H (ev E v) else fun C => C (ev E v) H) fun v' H' =>
      ∃ k, H' d = some k ∧ k.b = b ∧ k.s = s ∧ k.fz = false ∧ ∃ y, k.xs[i]? = some y ∧
      (match f with
        | none => v'.sz = s ∧ K E (updH H' d (some { k with xs := k.xs.set i v' })) n
        | some j => ∃ fs, y = .agg fs ∧ j < fs.length ∧ fs.length = s ∧ K E (updH H' d (some { k with xs := k.xs.set i (.agg (fs.set j v')) })) n)
    | _ => False
  | .app d s x y bytes fr kp, K => srcOf E H y fun ys => (∀ z ∈ ys, z.sz = s) ∧
    match ev E x with
      | .emp => (ys = [] → K (upd E d .emp) H n) ∧ (ys ≠ [] → ys.length * bytes ≤ 140737488355328 ∧ ys.length ≤ 140737488355328 ∧
          ∀ b n', n ≤ b → b < n' → K (upd E d (.own d b s ys.length)) (updH H d (some ⟨b, s, ys, false, !kp, false⟩)) n')
      | .own d' b s' len => ∃ k, H d' = some k ∧ k.b = b ∧ k.s = s ∧ s' = s ∧ k.fz = false ∧ (fr = true → k.ex = true) ∧ len = k.xs.length ∧ (len + ys.length) * bytes ≤ 140737488355328 ∧ len + ys.length ≤ 140737488355328 ∧
          ∀ b' n', n ≤ n' → (b' = b ∨ n ≤ b' ∧ b' < n') → K (upd E d (.own d' b' s (len + ys.length))) (updH H d' (some ⟨b', s, k.xs ++ ys, false, k.row, false⟩)) n'
      | _ => False
  | .call d f xs imp fl, K => ∃ g caps, ev E f = .fn g caps ∧ rdA fl H (xs.map (ev E) ++ caps) fun args ks =>
      ∃ R, L.l g args R ∧ ∀ lo hi r, n ≤ lo → lo ≤ hi → R lo hi r →
        (if r.scal = true then K (upd E d r) H hi else impv imp d lo E (frz H ks) r fun E' H' => K E' H' hi)
  | .uend, K => ∀ n', n ≤ n' → (∀ q k, H q = some k → k.b < n') → K E H n'
  | .uem d _, K => H d = none ∧ K (upd E d .emp) H n
  | .ucl d s x y bytes, K => H d = none ∧ ev E x = .emp ∧ ∃ ys, srcF (ev E y) = some ys ∧ (∀ z ∈ ys, z.sz = s) ∧ ys.length * bytes ≤ 140737488355328 ∧ ys.length ≤ 140737488355328 ∧
      (ys = [] → K (upd E d .emp) H n) ∧ (ys ≠ [] → ∀ b, n ≤ b → (∀ q k, H q = some k → k.b ≠ b) → K (upd E d (.own d b s ys.length)) (updH H d (some ⟨b, s, ys, false, true, false⟩)) n)
  | .callm d f xs, K => ∃ g caps, ev E f = .fn g caps ∧ ∃ (G : Nat → Bool) (R : Nat → Nat → AV → Hp → Prop), L.m g (xs.map (ev E) ++ caps) (givenH G H) R ∧ (∀ d k, G d = true → H d = some k → k.fz = false) ∧
      ∀ lo hi r H', n ≤ lo → lo ≤ hi → R lo hi r H' → (∀ d k, H' d = some k → G d = true) ∧ K (upd E d r) (backH G H H') hi
  | o, K => vq E H o fun d v => K (upd E d v) H n

def vgop (L : Laws) (E : Env) (H : Hp) (n : Nat) (o : GOp) (dst : Option Nat) (K : Env → Hp → Nat → Prop) : Prop :=
  match o.g with
  | none => va L E H n o.o K
  | some (t, want) => match E t with
    | .bool b => if b = want then va L E H n o.o K else match dst with | some d => K (upd E d (.tup [])) H n | none => K E H n
    | .tup [] => match dst with | some d => K (upd E d (.tup [])) H n | none => K E H n
    | _ => False

def VOp.dst : VOp → Option Nat
  | .mv d _ | .bin d _ _ _ | .not d _ | .beq d _ _ _ | .pick d _ _ _ | .len d _ _ | .idx d _ _ | .idxA d _ _ _ | .fldA d _ _ | .ld d _ _ | .slc d _ _ _ _ | .slc0 d _ | .ext d _ _ | .fld d _ _
  | .bld d _ | .conv d _ _ | .mx d _ _ _ | .mkf d _ _ | .nilck d _ | .neg d _ | .isnil d _ _ | .uem d _ | .ucl d _ _ _ _ | .alc d _ _ | .box d _ _ | .mks d _ _ _ _ | .bls d _ _ _ | .app d _ _ _ _ _ _ | .b2s d _ | .call d _ _ _ _ | .callm d _ _ => some d
  | .st _ _ _ => none
  | .uend => none

/-- a quiet operation that reads memory -/
def VOp.mem : VOp → Bool
  | .ld _ _ _ => true
  | .b2s _ _ => true
  | _ => false

def vops (L : Laws) : List GOp → (Env → Hp → Nat → Prop) → Env → Hp → Nat → Prop
  | [], K, E, H, n => K E H n
  | o :: os, K, E, H, n => vgop L E H n o o.o.dst fun E' H' n' => vops L os K E' H' n'

abbrev Post := VX → Env → Hp → Nat → Prop

def Post.then (Q : Post) (K : Env → Hp → Nat → Prop) : Post
  | .normal, E, H, n => K E H n
  | e, E, H, n => Q e E H n
def Post.inBlock (Q : Post) (id : Nat) : Post
  | .exit id', E, H, n => if id' = id then Q .normal E H n else Q (.exit id') E H n
  | e, E, H, n => Q e E H n

def rounds (body : Post → Env → Hp → Nat → Prop) (Q : Post) : Nat → Env → Hp → Nat → Prop
  | 0, _, _, _ => False
  | k + 1, E, H, n => body (Q.then fun E' H' n' => rounds body Q k E' H' n') E H n

def vwp (L : Laws) : VC → Post → Env → Hp → Nat → Prop
  | .skip, Q, E, H, n => Q .normal E H n
  | .reg ops _, Q, E, H, n => vops L ops (Q .normal) E H n
  | .seq a b, Q, E, H, n => vwp L a (Q.then fun E' H' n' => vwp L b Q E' H' n') E H n
  | .cond c a b, Q, E, H, n => ∃ t, ev E c = .bool t ∧ (if t = true then vwp L a Q E H n else vwp L b Q E H n)
  | .block id c, Q, E, H, n => vwp L c (Q.inBlock id) E H n
  | .loop c, Q, E, H, n => ∃ k, rounds (vwp L c) Q k E H n
  | .exit id, Q, E, H, n => Q (.exit id) E H n
  | .ret, Q, E, H, n => Q .ret E H n
  | .ghost c, Q, E, H, n => ∃ E' H', L.g E H n E' H' ∧ vwp L c Q E' H' n
  | .stuck, _, _, _, _ => False

inductive RVr where
  | tmp (t : Nat)
  | cell (t : Nat) (sz : Option Nat)

structure VFn where
  np : Nat
  nt : Nat
  res : List RVr
  body : VC

def getR (E : Env) (H : Hp) : List RVr → (List AV → Prop) → Prop
  | [], K => K []
  | .tmp t :: rs, K => getR E H rs fun vs => K (E t :: vs)
  | .cell t sz :: rs, K => vq E H (.ld 0 (.t t) sz) fun _ v => getR E H rs fun vs => K (v :: vs)

def mkR : List AV → AV
  | [v] => v
  | vs => .tup vs

def fnPost (rs : List RVr) (lo : Nat) (R : Nat → Nat → AV → Prop) : Post
  | .normal, E, H, n => getR E H rs fun vs => solE H vs fun vs' _ => R lo n (mkR vs')
  | .ret, E, H, n => getR E H rs fun vs => solE H vs fun vs' _ => R lo n (mkR vs')
  | _, _, _, _ => False

def fnPostM (rs : List RVr) (lo : Nat) (R : Nat → Nat → AV → Hp → Prop) : Post
  | .normal, E, H, n => getR E H rs fun vs => (∀ v ∈ vs, ∀ us, v ≠ .tup us) ∧ R lo n (mkR vs) H
  | .ret, E, H, n => getR E H rs fun vs => (∀ v ∈ vs, ∀ us, v ≠ .tup us) ∧ R lo n (mkR vs) H
  | _, _, _, _ => False

def ini (args : List AV) : Env := fun t => args.getD t .undef

/-- a list or a struct that was there before the call -/
def AV.older (lo : Nat) : AV → AV
  | .lsl t len xs => .old lo (.lsl t len xs)
  | .agg fs => .old lo (.agg fs)
  | x => x

end Go.AVM
