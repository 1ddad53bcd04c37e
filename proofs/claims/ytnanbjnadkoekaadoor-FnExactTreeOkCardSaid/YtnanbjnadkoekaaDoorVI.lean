/- The abstract machine's steps as equations that simp can take one at a time: what each operation gives is bound ahead of the rest. -/
import Derived.Test.YtnanbjnadkoekaaDoorVH
namespace Go.AVM
set_option linter.unusedVariables false
set_option linter.unusedSimpArgs false

/-! ### the bindings: simp looks at what is bound alone -/
/-- a mark: simp leaves what is marked as it is -/
inductive Tg {α : Type} (a : α) : Type
  | mk
def bv {α : Type} (v : α) (K : α → Prop) (_ : Tg K := .mk) : Prop := K v
def bo {α : Type} (o : Option α) (K : α → Prop) (_ : Tg K := .mk) : Prop := ∃ x, o = some x ∧ K x
def vif (c A B : Prop) (_ : Tg A := .mk) (_ : Tg B := .mk) : Prop := (c → A) ∧ (¬ c → B)
def bb (v : AV) (A B : Prop) (_ : Tg A := .mk) (_ : Tg B := .mk) : Prop := ∃ t, v = .bool t ∧ if t = true then A else B
def bg (v : AV) (want : Bool) (A B : Prop) (_ : Tg A := .mk) (_ : Tg B := .mk) : Prop :=
  match v with
  | .bool b => if b = want then A else B
  | .tup [] => B
  | _ => False
def ball (n : Nat) (K : Nat → Prop) (_ : Tg K := .mk) : Prop := ∀ b, n ≤ b → K b
def bmk (d s l n : Nat) (z : AV) (E : Env) (H : Hp) (K : Env → Hp → Nat → Prop) (_ : Tg E := .mk) (_ : Tg H := .mk) (_ : Tg K := .mk) : Prop :=
  ∃ kk : Nat → Nat, ∀ b, n ≤ b → K (upd E d (.own (kk b) b s l)) (updH H (kk b) (some ⟨b, s, List.replicate l z, false, true, true⟩)) (b + 1)
def bcallm (L : Laws) (g : FuncId) (args : List AV) (H : Hp) (n : Nat) (K : Nat → Nat → AV → Hp → Prop) (_ : Tg L := .mk) (_ : Tg H := .mk) (_ : Tg K := .mk) : Prop :=
  ∃ (G : Nat → Bool) (R : Nat → Nat → AV → Hp → Prop), L.m g args (givenH G H) R ∧ (∀ d k, G d = true → H d = some k → k.fz = false) ∧
      ∀ lo hi r H', n ≤ lo → lo ≤ hi → R lo hi r H' → (∀ d k, H' d = some k → G d = true) ∧ K lo hi r (backH G H H')
def bgh (L : Laws) (E : Env) (H : Hp) (n : Nat) (K : Env → Hp → Prop) (_ : Tg L := .mk) (_ : Tg E := .mk) (_ : Tg H := .mk) (_ : Tg K := .mk) : Prop := ∃ E' H', L.g E H n E' H' ∧ K E' H'
def bcall (L : Laws) (g : FuncId) (args : List AV) (n : Nat) (K : Nat → Nat → AV → Prop) (_ : Tg L := .mk) (_ : Tg K := .mk) : Prop :=
  ∃ R, L.l g args R ∧ ∀ lo hi r, n ≤ lo → lo ≤ hi → R lo hi r → K lo hi r
def bloop (L : Laws) (c : VC) (Q : Post) (E : Env) (H : Hp) (n : Nat) (_ : Tg L := .mk) (_ : Tg c := .mk) (_ : Tg Q := .mk) (_ : Tg E := .mk) (_ : Tg H := .mk) : Prop := vwp L (.loop c) Q E H n

theorem bv_eq {α : Type} (v : α) (K : α → Prop) : bv v K .mk = K v := propext Iff.rfl
theorem bo_some {α : Type} (v : α) (K : α → Prop) : bo (some v) K .mk = K v := by simp [bo]
theorem bo_none {α : Type} (K : α → Prop) : bo none K .mk = False := by simp [bo]
theorem vif_true (A B : Prop) : vif True A B .mk .mk = A := by simp [vif]
theorem vif_false (A B : Prop) : vif False A B .mk .mk = B := by simp [vif]
theorem bb_true (A B : Prop) : bb (.bool true) A B .mk .mk = A := by simp [bb]
theorem bb_false (A B : Prop) : bb (.bool false) A B .mk .mk = B := by simp [bb]
theorem bb_dec (p : Prop) [h : Decidable p] (A B : Prop) : bb (.bool (decide p)) A B .mk .mk = vif p A B .mk .mk := by
  by_cases hp : p <;> simp [bb, vif, hp]
theorem bb_not (b : Bool) (A B : Prop) : bb (.bool (!b)) A B .mk .mk = bb (.bool b) B A .mk .mk := by cases b <;> simp [bb]
theorem vif_not (c A B : Prop) : vif (¬ c) A B .mk .mk = vif c B A .mk .mk := by
  by_cases h : c <;> simp [vif, h]

/-! ### the operations -/
def pickv : AV → AV → AV → Option AV
  | .bool b, x, y => some (if b = true then x else y)
  | _, _, _ => none
def notv : AV → Option AV
  | .bool b => some (.bool (!b))
  | _ => none
def idxv : AV → AV → Option AV
  | .str s, .int _ i => if 0 ≤ i then (s.data[i.toNat]?).map fun c => .int .u8 c.toNat else none
  | _, _ => none
def idxAv (s : Nat) : AV → AV → Option AV
  | .lsl _ len xs, .int _ i => if 0 ≤ i ∧ i < len then (xs[i.toNat]?).bind fun y => if y.sz = s then some (.lptr y) else none else none
  | .own d b s' len, .int _ i => if 0 ≤ i ∧ i < len ∧ s' = s then some (.optr d b s i.toNat none) else none
  | _, _ => none
def fldAv (f : Nat) : AV → Option AV
  | .lptr (.agg fs) => (fs[f]?).bind fun y => if y.isAgg = false ∧ y.sz = 1 then some (.lptr y) else none
  | .optr d b s i none => if f < s then some (.optr d b s i (some f)) else none
  | _ => none
def fitsz (sz : Option Nat) (y : AV) : Bool :=
  match sz, y with
  | some m, .agg fs => fs.length == m
  | none, .agg _ => false
  | none, _ => true
  | _, _ => false
def ldv (H : Hp) (sz : Option Nat) : AV → Option AV
  | .lptr y => if fitsz sz y = true ∧ (sz = none → y.sz = 1) then some y else none
  | .optr d b s i none => (H d).bind fun k => if k.b = b ∧ k.s = s then (k.xs[i]?).bind fun y => if fitsz sz y = true ∧ (sz = none → s = 1) then some y else none else none
  | .optr d b s i (some f) => (H d).bind fun k => if k.b = b ∧ k.s = s ∧ sz = none then (k.xs[i]?).bind fun
      | .agg fs => (fs[f]?).bind fun y => if y.isAgg = false then some y else none
      | _ => none else none
  | _ => none
def extv (i : Nat) : AV → Option AV
  | .tup vs => vs[i]?
  | _ => none
def fldv (f : Nat) : AV → Option AV
  | .agg fs => (fs[f]?).bind fun y => if y.isAgg = false then some y else none
  | _ => none
def convv (k : IntKind) : AV → Option AV
  | .int _ n => some (.int k (k.wrap n))
  | _ => none
def mxv (gt : Bool) : AV → AV → Option AV
  | .int k a, .int j b => if k = j then some (.int k (if gt = true then (if b > a then b else a) else (if b < a then b else a))) else none
  | _, _ => none
def nilv : AV → Option AV
  | .lptr y => some (.lptr y)
  | .optr d b s i f => some (.optr d b s i f)
  | .fn f c => some (.fn f c)
  | _ => none
def small (xs : List AV) : Bool := xs.all fun x => !x.isAgg && x.sz == 1
def bldv (xs : List AV) : Option AV := if small xs = true then some (.agg xs) else none
def mkfv (f : Nat) (xs : List AV) : Option AV := if small xs = true then some (.fn f xs) else none
def slc0v : AV → Option AV
  | .lsl _ _ _ | .own _ _ _ _ | .emp => some .emp
  | _ => none
def hdOk (s : Nat) (xs : List AV) : Bool := match xs with | [] => true | y :: _ => y.sz == s
def slcv (H : Hp) (s : Nat) : AV → Option AV → Option AV → Option AV
  | .str v, none, some (.int _ h) => if s = 0 ∧ 0 ≤ h ∧ h ≤ v.size then some (.str (v.extract 0 h.toNat)) else none
  | .str v, some (.int _ l), none => if s = 0 ∧ 0 ≤ l ∧ l ≤ v.size then some (.str (v.extract l.toNat v.size)) else none
  | .str v, some (.int _ l), some (.int _ h) => if s = 0 ∧ 0 ≤ l ∧ l ≤ h ∧ h ≤ v.size then some (.str (v.extract l.toNat h.toNat)) else none
  | .lsl t _ xs, none, some (.int _ h) => if 0 < s ∧ 0 ≤ h ∧ h ≤ xs.length then some (.lsl t h.toNat xs) else none
  | .lsl _ len xs, some (.int _ l), none => if 0 < s ∧ 0 ≤ l ∧ l ≤ len ∧ hdOk s xs = true then some (.lsl none (len - l.toNat) (xs.drop l.toNat)) else none
  | .lsl _ _ xs, some (.int _ l), some (.int _ h) => if 0 < s ∧ 0 ≤ l ∧ l ≤ h ∧ h ≤ xs.length ∧ hdOk s xs = true then some (.lsl none (h.toNat - l.toNat) (xs.drop l.toNat)) else none
  | .own d' b s' _, none, some (.int _ h) => (H d').bind fun k => if 0 < s ∧ k.b = b ∧ k.s = s' ∧ 0 ≤ h ∧ h ≤ k.xs.length then some (.own d' b s' h.toNat) else none
  | .emp, none, some (.int _ 0) => if 0 < s then some .emp else none
  | _, _, _ => none

variable {L : Laws} {os : List GOp} {K : Env → Hp → Nat → Prop} {E : Env} {H : Hp} {n : Nat} {Q : Post}

theorem ev_t (t : Nat) : ev E (.t t) = E t := Eq.trans rfl rfl
theorem ev_c (v : AV) : ev E (.c v) = v := Eq.trans rfl rfl
theorem upd_at (d : Nat) (v : AV) (t : Nat) : upd E d v t = if t = d then v else E t := Eq.trans rfl rfl
theorem updH_at (d : Nat) (v : Option Blk) (t : Nat) : updH H d v t = if t = d then v else H t := Eq.trans rfl rfl

theorem vops_nil : vops L [] K E H n = K E H n := propext Iff.rfl
theorem o_mv (d : Nat) (x : Opd) : vops L (⟨none, .mv d x⟩ :: os) K E H n = bv (ev E x) fun v => vops L os K (upd E d v) H n := propext Iff.rfl
theorem o_bin (d : Nat) (op : BinOp) (x y : Opd) : vops L (⟨none, .bin d op x y⟩ :: os) K E H n = bo (binv op (ev E x) (ev E y)) fun v => vops L os K (upd E d v) H n := propext Iff.rfl
theorem o_not (d : Nat) (x : Opd) : vops L (⟨none, .not d x⟩ :: os) K E H n = bo (notv (ev E x)) fun v => vops L os K (upd E d v) H n := by
  simp only [vops, vgop, va, vq, bo]
  cases ev E x <;> simp [notv]
def beqv (neg : Bool) : AV → AV → Option AV
  | .bool a, .bool b => some (.bool (if neg = true then !(a == b) else (a == b)))
  | _, _ => none
theorem o_beq (d : Nat) (neg : Bool) (x y : Opd) : vops L (⟨none, .beq d neg x y⟩ :: os) K E H n = bo (beqv neg (ev E x) (ev E y)) fun v => vops L os K (upd E d v) H n := by
  simp only [vops, vgop, va, vq, bo]
  cases ev E x <;> cases ev E y <;> simp [beqv]
theorem o_pick (d : Nat) (c x y : Opd) : vops L (⟨none, .pick d c x y⟩ :: os) K E H n = bo (pickv (ev E c) (ev E x) (ev E y)) fun v => vops L os K (upd E d v) H n := by
  simp only [vops, vgop, va, vq, bo]
  cases ev E c <;> simp [pickv]
theorem o_len (d : Nat) (b : Bool) (x : Opd) : vops L (⟨none, .len d b x⟩ :: os) K E H n = bo (lenv b (ev E x)) fun m => vops L os K (upd E d (.int .i64 m)) H n := propext Iff.rfl
theorem ex_if {α : Type} {c : Prop} [Decidable c] {v : α} {K : α → Prop} : (∃ x, (if c then some v else none) = some x ∧ K x) ↔ c ∧ K v := by
  by_cases h : c <;> simp [h]
theorem ex_ifo {α : Type} {c : Prop} [Decidable c] {o : Option α} {K : α → Prop} : (∃ x, (if c then o else none) = some x ∧ K x) ↔ c ∧ ∃ x, o = some x ∧ K x := by
  by_cases h : c <;> simp [h]
theorem ex_bind {α β : Type} {o : Option α} {f : α → Option β} {K : β → Prop} : (∃ x, o.bind f = some x ∧ K x) ↔ ∃ y, o = some y ∧ ∃ x, f y = some x ∧ K x := by
  cases o <;> simp
theorem ex_map {α β : Type} {o : Option α} {f : α → β} {K : β → Prop} : (∃ x, o.map f = some x ∧ K x) ↔ ∃ y, o = some y ∧ K (f y) := by
  cases o <;> simp
theorem ex_none {α : Type} {K : α → Prop} : (∃ x, (none : Option α) = some x ∧ K x) ↔ False := by simp
theorem ex_some {α : Type} {v : α} {K : α → Prop} : (∃ x, some v = some x ∧ K x) ↔ K v := by simp
theorem o_idx (d : Nat) (x i : Opd) : vops L (⟨none, .idx d x i⟩ :: os) K E H n = bo (idxv (ev E x) (ev E i)) fun v => vops L os K (upd E d v) H n := by
  simp only [vops, vgop, va, vq, bo]
  cases ev E x <;> cases ev E i <;> simp only [idxv, ex_ifo, ex_map, ex_none]
  exact propext ⟨fun ⟨c, h1, h2, h3⟩ => ⟨h2, c, h1, h3⟩, fun ⟨h2, c, h1, h3⟩ => ⟨c, h1, h2, h3⟩⟩
theorem o_idxA (d s : Nat) (x i : Opd) : vops L (⟨none, .idxA d s x i⟩ :: os) K E H n = bo (idxAv s (ev E x) (ev E i)) fun v => vops L os K (upd E d v) H n := by
  simp only [vops, vgop, va, vq, bo]
  cases ev E x <;> cases ev E i <;> simp only [idxAv, ex_ifo, ex_bind, ex_some, ex_none, and_assoc]
  · exact propext ⟨fun ⟨c, h1, h2, h3, h4, h5⟩ => ⟨h2, h3, c, h1, h4, h5⟩, fun ⟨h2, h3, c, h1, h4, h5⟩ => ⟨c, h1, h2, h3, h4, h5⟩⟩
theorem o_fldA (d : Nat) (x : Opd) (f : Nat) : vops L (⟨none, .fldA d x f⟩ :: os) K E H n = bo (fldAv f (ev E x)) fun v => vops L os K (upd E d v) H n := by
  simp only [vops, vgop, va, vq, bo]
  cases ev E x with
  | lptr y => cases y <;> simp only [fldAv, ex_bind, ex_ifo, ex_some, ex_none, and_assoc]
  | optr d b s i g => cases g <;> simp only [fldAv, ex_if, ex_none]
  | _ => simp only [fldAv, ex_none]
theorem ldq_eq (d : Nat) (x : Opd) (sz : Option Nat) (C : Nat → AV → Prop) : vq E H (.ld d x sz) C = ∃ v, ldv H sz (ev E x) = some v ∧ C d v := by
  simp only [vq]
  cases ev E x with
  | lptr y =>
    simp only [ldv, ex_if]
    cases sz <;> cases y <;> simp [fitsz, AV.isAgg]
  | optr d b s i g =>
    cases g with
    | none =>
      simp only [ldv, ex_ifo, ex_bind, ex_some, and_assoc]
      refine congrArg _ (funext fun k => ?_)
      refine congrArg _ (congrArg _ (congrArg _ (congrArg _ (funext fun y => congrArg _ ?_))))
      cases sz <;> cases y <;> simp [fitsz, AV.isAgg]
    | some g =>
      simp only [ldv, ex_ifo, ex_bind, ex_some, and_assoc]
      refine propext ⟨fun ⟨k, h1, h2, h3, fs, h4, y, h5, h6, h7, h8⟩ => ⟨k, h1, h2, h3, h7, _, h4, ?_⟩, fun ⟨k, h1, h2, h3, h4, z, h5, h6⟩ => ⟨k, h1, h2, h3, ?_⟩⟩
      · simp only [ex_bind, ex_if]
        exact ⟨y, h5, h6, h8⟩
      · cases z <;> simp only [ex_bind, ex_ifo, ex_some, ex_none] at h6
        obtain ⟨y, h7, h8, h9⟩ := h6
        exact ⟨_, h5, y, h7, h8, h4, h9⟩
  | _ => simp only [ldv, ex_none]
theorem o_ld (d : Nat) (x : Opd) (sz : Option Nat) : vops L (⟨none, .ld d x sz⟩ :: os) K E H n = bo (ldv H sz (ev E x)) fun v => vops L os K (upd E d v) H n :=
  ldq_eq (E := E) (H := H) d x sz (fun d v => vops L os K (upd E d v) H n)
theorem hd_iff (s : Nat) (xs : List AV) : (∀ y, xs.head? = some y → y.sz = s) ↔ hdOk s xs = true := by
  cases xs <;> simp [hdOk]
theorem o_slc (d s : Nat) (x : Opd) (lo hi : Option Opd) : vops L (⟨none, .slc d s x lo hi⟩ :: os) K E H n = bo (slcv H s (ev E x) (lo.map (ev E)) (hi.map (ev E))) fun v => vops L os K (upd E d v) H n := by
  simp only [vops, vgop, va, vq, bo]
  generalize ev E x = u
  generalize lo.map (ev E) = l
  generalize hi.map (ev E) = h
  rcases u <;> rcases l with _ | l <;> rcases h with _ | h <;> (try rcases l) <;> (try rcases h) <;> simp only [slcv, ex_ifo, ex_bind, ex_none, ex_some, and_assoc, hd_iff] <;> (try simp only [ex_none])
  · rename_i k i
    by_cases hi : i = 0
    · subst hi
      simp only [slcv, ex_ifo, ex_some]
    · simp [slcv, hi]
  · rename_i d' b s' len k i
    refine propext ⟨fun ⟨h1, k, h2, h3, h4, h5, h6, h7⟩ => ⟨k, h2, h1, h3, h4, h5, h6, h7⟩, fun ⟨k, h2, h1, h3, h4, h5, h6, h7⟩ => ⟨h1, k, h2, h3, h4, h5, h6, h7⟩⟩
theorem o_slc0 (d : Nat) (x : Opd) : vops L (⟨none, .slc0 d x⟩ :: os) K E H n = bo (slc0v (ev E x)) fun v => vops L os K (upd E d v) H n := by
  simp only [vops, vgop, va, vq, bo]
  cases ev E x <;> simp [slc0v]
theorem o_ext (d : Nat) (x : Opd) (i : Nat) : vops L (⟨none, .ext d x i⟩ :: os) K E H n = bo (extv i (ev E x)) fun v => vops L os K (upd E d v) H n := by
  simp only [vops, vgop, va, vq, bo]
  cases ev E x <;> simp [extv]
theorem o_fld (d : Nat) (x : Opd) (f : Nat) : vops L (⟨none, .fld d x f⟩ :: os) K E H n = bo (fldv f (ev E x)) fun v => vops L os K (upd E d v) H n := by
  simp only [vops, vgop, va, vq, bo]
  cases ev E x <;> simp [fldv]
  simp only [ex_bind, ex_if]
theorem small_iff (xs : List AV) : (∀ x ∈ xs, x.isAgg = false ∧ x.sz = 1) ↔ small xs = true := by
  simp [small]
theorem o_bld (d : Nat) (xs : List Opd) : vops L (⟨none, .bld d xs⟩ :: os) K E H n = bo (bldv (xs.map (ev E))) fun v => vops L os K (upd E d v) H n := by
  simp only [vops, vgop, va, vq, bo, small_iff, bldv, ex_if]
theorem o_mkf (d f : Nat) (xs : List Opd) : vops L (⟨none, .mkf d f xs⟩ :: os) K E H n = bo (mkfv f (xs.map (ev E))) fun v => vops L os K (upd E d v) H n := by
  simp only [vops, vgop, va, vq, bo, small_iff, mkfv, ex_if]
theorem o_conv (d : Nat) (k : IntKind) (x : Opd) : vops L (⟨none, .conv d k x⟩ :: os) K E H n = bo (convv k (ev E x)) fun v => vops L os K (upd E d v) H n := by
  simp only [vops, vgop, va, vq, bo]
  cases ev E x <;> simp only [convv, ex_none, ex_some] <;> simp
  exact ⟨fun ⟨_, _, ⟨rfl, rfl⟩, h⟩ => h, fun h => ⟨_, _, ⟨rfl, rfl⟩, h⟩⟩
theorem o_mx (d : Nat) (gt : Bool) (x y : Opd) : vops L (⟨none, .mx d gt x y⟩ :: os) K E H n = bo (mxv gt (ev E x) (ev E y)) fun v => vops L os K (upd E d v) H n := by
  simp only [vops, vgop, va, vq, bo]
  generalize ev E x = u
  generalize ev E y = v
  refine propext ⟨?_, ?_⟩
  · rintro ⟨q, a, b, rfl, rfl, h⟩
    simp only [mxv, ex_if]
    exact ⟨trivial, h⟩
  · rintro ⟨w, h, h'⟩
    cases u <;> cases v <;> simp only [mxv, reduceCtorEq] at h
    split at h
    · rename_i e
      cases e
      cases h
      exact ⟨_, _, _, rfl, rfl, h'⟩
    · cases h
def negv : AV → Option AV
  | .int k n => some (.int k (k.wrap (-n)))
  | _ => none
def b2sv (H : Hp) : AV → Option AV
  | .own d' b s len => (H d').bind fun k => if k.b = b ∧ k.s = s ∧ s = 1 ∧ len ≤ k.xs.length then (u8s (k.xs.take len)).bind fun ns => some (.str (bytesOf ns)) else none
  | _ => none
def breq (c A : Prop) (_ : Tg A := .mk) : Prop := c ∧ A
theorem breq_true (A : Prop) : breq True A .mk = A := by simp [breq]
theorem breq_mk {c A : Prop} (h : c) (h' : A) : breq c A .mk := ⟨h, h'⟩
def bnil (v : AV) (ne : Bool) (K : AV → Prop) (_ : Tg K := .mk) : Prop :=
  match v with
  | .emp => ∀ b, K (.bool b)
  | .lsl none _ [] => ∀ b, K (.bool b)
  | .lsl _ _ _ => K (.bool ne)
  | .own _ _ _ _ => K (.bool ne)
  | _ => False
theorem o_isnil (d : Nat) (ne : Bool) (x : Opd) : vops L (⟨none, .isnil d ne x⟩ :: os) K E H n = bnil (ev E x) ne fun v => vops L os K (upd E d v) H n := by
  simp only [vops, vgop, va, vq, bnil]
  cases ev E x <;> rfl
/-- what stands behind an empty literal -/
def bucl (d s bytes n : Nat) (y : AV) (E : Env) (H : Hp) (K : Env → Hp → Nat → Prop) (_ : Tg E := .mk) (_ : Tg H := .mk) (_ : Tg K := .mk) : Prop :=
  H d = none ∧ ∃ ys, srcF y = some ys ∧ (∀ z ∈ ys, z.sz = s) ∧ ys.length * bytes ≤ 140737488355328 ∧ ys.length ≤ 140737488355328 ∧
      (ys = [] → K (upd E d .emp) H n) ∧ (ys ≠ [] → ∀ b, n ≤ b → (∀ q k, H q = some k → k.b ≠ b) → K (upd E d (.own d b s ys.length)) (updH H d (some ⟨b, s, ys, false, true, false⟩)) n)
def bup (n : Nat) (H : Hp) (K : Nat → Prop) (_ : Tg H := .mk) (_ : Tg K := .mk) : Prop := ∀ n', n ≤ n' → (∀ q k, H q = some k → k.b < n') → K n'
theorem o_uend : vops L (⟨none, .uend⟩ :: os) K E H n = bup n H fun n' => vops L os K E H n' := propext Iff.rfl
theorem o_uem (d s : Nat) : vops L (⟨none, .uem d s⟩ :: os) K E H n = breq (H d = none) (vops L os K (upd E d .emp) H n) := propext Iff.rfl
theorem o_ucl (d s : Nat) (x y : Opd) (bytes : Nat) : vops L (⟨none, .ucl d s x y bytes⟩ :: os) K E H n = breq (ev E x = .emp) (bucl d s bytes n (ev E y) E H (vops L os K)) := by
  simp only [vops, vgop, va, breq, bucl]
  exact propext ⟨fun ⟨h1, h2, h⟩ => ⟨h2, h1, h⟩, fun ⟨h2, h1, h⟩ => ⟨h1, h2, h⟩⟩
theorem o_neg (d : Nat) (x : Opd) : vops L (⟨none, .neg d x⟩ :: os) K E H n = bo (negv (ev E x)) fun v => vops L os K (upd E d v) H n := by
  simp only [vops, vgop, va, vq, bo]
  cases ev E x <;> simp [negv]
  exact ⟨fun ⟨_, _, ⟨rfl, rfl⟩, h⟩ => h, fun h => ⟨_, _, ⟨rfl, rfl⟩, h⟩⟩
theorem o_b2s (d : Nat) (x : Opd) : vops L (⟨none, .b2s d x⟩ :: os) K E H n = bo (b2sv H (ev E x)) fun v => vops L os K (upd E d v) H n := by
  simp only [vops, vgop, va, vq, bo]
  cases ev E x <;> simp only [b2sv, ex_none, ex_bind, ex_ifo, ex_some, and_assoc]
theorem o_nil (d : Nat) (x : Opd) : vops L (⟨none, .nilck d x⟩ :: os) K E H n = bo (nilv (ev E x)) fun v => vops L os K (upd E d v) H n := by
  simp only [vops, vgop, va, vq, bo]
  cases ev E x <;> simp [nilv]

/-! ### the active ones -/
def intv : AV → Option Int
  | .int _ l => some l
  | _ => none
def fnv : AV → Option (FuncId × List AV)
  | .fn g caps => some (g, caps)
  | _ => none
def allsz (s : Nat) (xs : List AV) : Bool := xs.all fun x => x.sz == s
def solo1 (H : Hp) : AV → Option (AV × Hp)
  | .own d b s len => (H d).bind fun k => if k.b = b ∧ k.s = s ∧ len ≤ k.xs.length then some (.lsl (some (b, s)) len k.xs, updH H d none) else none
  | .optr .. => none
  | .fn .. => none
  | .tup _ => none
  | .agg _ => none
  | .undef => none
  | .old _ _ => none
  | v => some (v, H)
def solso (H : Hp) : List AV → Option (List AV × Hp)
  | [] => some ([], H)
  | v :: vs => (solo1 H v).bind fun p => (solso p.2 vs).bind fun q => some (p.1 :: q.1, q.2)
def solo (H : Hp) : AV → Option (AV × Hp)
  | .agg fs => (solso H fs).bind fun p => some (.agg p.1, p.2)
  | v => solo1 H v
def solEo (H : Hp) : List AV → Option (List AV × Hp)
  | [] => some ([], H)
  | v :: vs => (solo H v).bind fun p => (solEo p.2 vs).bind fun q => some (p.1 :: q.1, q.2)
theorem sol1_eq (H : Hp) (v : AV) (K : AV → Hp → Prop) : sol1 H v K ↔ ∃ p, solo1 H v = some p ∧ K p.1 p.2 := by
  cases v <;> simp only [sol1, solo1, ex_none, ex_some, ex_bind, ex_ifo, and_assoc]
theorem sols_eq (H : Hp) (vs : List AV) (K : List AV → Hp → Prop) : sols H vs K ↔ ∃ p, solso H vs = some p ∧ K p.1 p.2 := by
  induction vs generalizing H K with
  | nil => simp only [sols, solso, ex_some]
  | cons v vs ih => simp only [sols, solso, ex_bind, ex_some, sol1_eq, ih]
theorem sol_eq (H : Hp) (v : AV) (K : AV → Hp → Prop) : sol H v K ↔ ∃ p, solo H v = some p ∧ K p.1 p.2 := by
  cases v with
  | agg fs => simp only [sol, solo, sols_eq, ex_bind, ex_some]
  | _ => simp only [sol, solo, sol1_eq]
theorem solE_eq (H : Hp) (vs : List AV) (K : List AV → Hp → Prop) : solE H vs K ↔ ∃ p, solEo H vs = some p ∧ K p.1 p.2 := by
  induction vs generalizing H K with
  | nil => simp only [solE, solEo, ex_some]
  | cons v vs ih => simp only [solE, solEo, ex_bind, ex_some, sol_eq, ih]
def rd1o (fl : Bool) (H : Hp) : AV → Option (AV × List Nat)
  | .own d b s len => (H d).bind fun k => if k.b = b ∧ k.s = s ∧ len ≤ k.xs.length then some (.lsl none len (if fl = true then k.xs else k.xs.take len), [d]) else none
  | .lsl _ len xs => some (.lsl none len (if fl = true then xs else xs.take len), [])
  | .emp => some (.lsl none 0 [], [])
  | .bool b => some (.bool b, [])
  | .int k n => some (.int k n, [])
  | .str s => some (.str s, [])
  | .lptr x => some (.lptr x, [])
  | .fn f [] => some (.fn f [], [])
  | _ => none
def rdso (fl : Bool) (H : Hp) : List AV → Option (List AV × List Nat)
  | [] => some ([], [])
  | v :: vs => (rd1o fl H v).bind fun p => (rdso fl H vs).bind fun q => some (p.1 :: q.1, p.2 ++ q.2)
def rdpo (fl : Bool) (H : Hp) : AV → Option (AV × List Nat)
  | .agg fs => (rdso fl H fs).bind fun p => some (.agg p.1, p.2)
  | y => rd1o fl H y
def rd2o (fl : Bool) (H : Hp) : AV → Option (AV × List Nat)
  | .optr d b s i none => (H d).bind fun k => if k.b = b ∧ k.s = s then (k.xs[i]?).bind fun y => if y.sz = s then (rdpo fl H y).bind fun p => some (.lptr p.1, d :: p.2) else none else none
  | v => rdpo fl H v
def rds2o (fl : Bool) (H : Hp) : List AV → Option (List AV × List Nat)
  | [] => some ([], [])
  | v :: vs => (rd2o fl H v).bind fun p => (rds2o fl H vs).bind fun q => some (p.1 :: q.1, p.2 ++ q.2)
def rd3o (fl : Bool) (H : Hp) : AV → Option (AV × List Nat)
  | .fn f cap => (rds2o fl H cap).bind fun p => some (.fn f p.1, p.2)
  | .old _ x => rd2o fl H x
  | v => rd2o fl H v
def rdAo (fl : Bool) (H : Hp) : List AV → Option (List AV × List Nat)
  | [] => some ([], [])
  | v :: vs => (rd3o fl H v).bind fun p => (rdAo fl H vs).bind fun q => some (p.1 :: q.1, p.2 ++ q.2)
theorem rd1_eq (fl : Bool) (H : Hp) (v : AV) (K : AV → List Nat → Prop) : rd1 fl H v K ↔ ∃ p, rd1o fl H v = some p ∧ K p.1 p.2 := by
  cases v with
  | fn f c => cases c <;> simp only [rd1, rd1o, ex_none, ex_some]
  | _ => simp only [rd1, rd1o, ex_none, ex_some, ex_bind, ex_ifo, and_assoc]
theorem rds_eq (fl : Bool) (H : Hp) (vs : List AV) (K : List AV → List Nat → Prop) : rds fl H vs K ↔ ∃ p, rdso fl H vs = some p ∧ K p.1 p.2 := by
  induction vs generalizing K with
  | nil => simp only [rds, rdso, ex_some]
  | cons v vs ih => simp only [rds, rdso, ex_bind, ex_some, rd1_eq, ih]
theorem rd2_eq (fl : Bool) (H : Hp) (v : AV) (K : AV → List Nat → Prop) : rd2 fl H v K ↔ ∃ p, rd2o fl H v = some p ∧ K p.1 p.2 := by
  cases v with
  | agg fs => simp only [rd2, rd2o, rdpo, rds_eq, ex_bind, ex_some]
  | optr d b s i f =>
    cases f with
    | some _ => simp only [rd2, rd2o, rdpo, rd1_eq]
    | none =>
      simp only [rd2, rd2o, ex_bind, ex_ifo, and_assoc]
      refine exists_congr fun k => and_congr_right fun _ => and_congr_right fun _ => and_congr_right fun _ => exists_congr fun y => and_congr_right fun _ => and_congr_right fun _ => ?_
      cases y <;> simp only [rdpo, rds_eq, rd1_eq, ex_bind, ex_some]
  | _ => simp only [rd2, rd2o, rdpo, rd1_eq]
theorem rds2_eq (fl : Bool) (H : Hp) (vs : List AV) (K : List AV → List Nat → Prop) : rds2 fl H vs K ↔ ∃ p, rds2o fl H vs = some p ∧ K p.1 p.2 := by
  induction vs generalizing K with
  | nil => simp only [rds2, rds2o, ex_some]
  | cons v vs ih => simp only [rds2, rds2o, ex_bind, ex_some, rd2_eq, ih]
theorem rd3_eq (fl : Bool) (H : Hp) (v : AV) (K : AV → List Nat → Prop) : rd3 fl H v K ↔ ∃ p, rd3o fl H v = some p ∧ K p.1 p.2 := by
  cases v with
  | fn f c => simp only [rd3, rd3o, rds2_eq, ex_bind, ex_some]
  | _ => simp only [rd3, rd3o, rd2_eq]
theorem rdA_eq (fl : Bool) (H : Hp) (vs : List AV) (K : List AV → List Nat → Prop) : rdA fl H vs K ↔ ∃ p, rdAo fl H vs = some p ∧ K p.1 p.2 := by
  induction vs generalizing K with
  | nil => simp only [rdA, rdAo, ex_some]
  | cons v vs ih => simp only [rdA, rdAo, ex_bind, ex_some, rd3_eq, ih]

theorem o_alc (d s : Nat) (z : AV) : vops L (⟨none, .alc d s z⟩ :: os) K E H n = breq (z.sz = s) (ball n fun b => vops L os K (upd E d (.optr d b s 0 none)) (updH H d (some ⟨b, s, [z], false, false, false⟩)) (b + 1)) := propext Iff.rfl
theorem o_box (d s : Nat) (x : Opd) : vops L (⟨none, .box d s x⟩ :: os) K E H n = bv (ev E x) fun v => breq (v.sz = s ∧ 0 < s) (ball n fun b => vops L os K (upd E d (.optr d b s 0 none)) (updH H d (some ⟨b, s, [v], false, false, false⟩)) (b + 1)) := by
  simp only [vops, vgop, va, bv, breq, ball, and_assoc]
theorem o_mks (d s : Nat) (m : Opd) (z : AV) (bytes : Nat) : vops L (⟨none, .mks d s m z bytes⟩ :: os) K E H n = bo (intv (ev E m)) fun l => breq (0 ≤ l ∧ l * bytes ≤ 140737488355328 ∧ l ≤ 140737488355328)
    (bmk d s l.toNat n z E H (vops L os K)) := by
  simp only [vops, vgop, va, bo, breq, bmk, and_assoc]
  cases ev E m <;> simp only [intv, ex_none, ex_some] <;> simp
  exact ⟨fun ⟨_, _, ⟨rfl, rfl⟩, h⟩ => h, fun h => ⟨_, _, ⟨rfl, rfl⟩, h⟩⟩
theorem mk_at {d s l n : Nat} {z : AV} {E : Env} {H : Hp} {K : Env → Hp → Nat → Prop} {c : Prop} (hc : c) (h : ∀ b, n ≤ b → K (upd E d (.own d b s l)) (updH H d (some ⟨b, s, List.replicate l z, false, true, true⟩)) (b + 1)) : breq c (bmk d s l n z E H K) := ⟨hc, fun _ => d, h⟩
theorem mk_key (kk : Nat → Nat) {d s l n : Nat} {z : AV} {E : Env} {H : Hp} {K : Env → Hp → Nat → Prop} {c : Prop} (hc : c) (h : ∀ b, n ≤ b → K (upd E d (.own (kk b) b s l)) (updH H (kk b) (some ⟨b, s, List.replicate l z, false, true, true⟩)) (b + 1)) : breq c (bmk d s l n z E H K) := ⟨hc, kk, h⟩
theorem allsz_iff (s : Nat) (xs : List AV) : (∀ y ∈ xs, y.sz = s) ↔ allsz s xs = true := by simp [allsz]
theorem o_bls (d s : Nat) (xs : List Opd) : vops L (⟨none, .bls d s xs false⟩ :: os) K E H n = bo (solEo H (xs.map (ev E))) fun p => breq (allsz s p.1 = true)
    (ball n fun b => vops L os K (upd E d (.own d b s p.1.length)) (updH p.2 d (some ⟨b, s, p.1, false, true, true⟩)) (b + 1)) := by
  simp only [vops, vgop, va, bo, breq, ball, solE_eq, allsz_iff, Bool.false_eq_true, if_false]
theorem o_blk (d s : Nat) (xs : List Opd) : vops L (⟨none, .bls d s xs true⟩ :: os) K E H n = bv (xs.map (ev E)) fun ys => breq (allsz s ys = true)
    (ball n fun b => vops L os K (upd E d (.own d b s ys.length)) (updH H d (some ⟨b, s, ys, false, false, true⟩)) (b + 1)) := by
  simp only [vops, vgop, va, bv, breq, ball, allsz_iff, if_true, List.length_map]
def stv (H : Hp) (sz : Option Nat) (v : AV) : AV → Option Hp
  | .optr d b s i f => if (f.isSome = true → sz = none) ∧ fitsz sz v = true ∧ (sz = none → v.sz = 1) then
      (H d).bind fun k0 => (if k0.row = true then solo H v else some (v, H)).bind fun p => (p.2 d).bind fun k => if k.b = b ∧ k.s = s ∧ k.fz = false then
        (k.xs[i]?).bind fun y => (match f with
          | none => if p.1.sz = s then some (updH p.2 d (some { k with xs := k.xs.set i p.1 })) else none
          | some j => (match y with
            | .agg fs => if j < fs.length ∧ fs.length = s then some (updH p.2 d (some { k with xs := k.xs.set i (.agg (fs.set j p.1)) })) else none
            | _ => none)) else none else none
  | _ => none
theorem o_st (x v : Opd) (sz : Option Nat) : vops L (⟨none, .st x v sz⟩ :: os) K E H n = bo (stv H sz (ev E v) (ev E x)) fun H' => vops L os K E H' n := by
  simp only [vops, vgop, va, bo]
  cases ev E x with
  | optr d b s i f =>
    simp only [stv, ex_ifo, ex_bind, and_assoc]
    have hfit : (match sz with | none => (ev E v).isAgg = false ∧ (ev E v).sz = 1 | some m => ∃ fs, ev E v = .agg fs ∧ fs.length = m) ↔ (fitsz sz (ev E v) = true ∧ (sz = none → (ev E v).sz = 1)) := by
      cases sz <;> cases ev E v <;> simp [fitsz, AV.isAgg]
    refine propext (and_congr_right fun h1 => ?_)
    refine (and_congr (show _ ↔ _ from hfit) Iff.rfl).trans ?_
    rw [and_assoc]
    refine and_congr_right fun _ => and_congr_right fun _ => exists_congr fun k0 => and_congr_right fun _ => ?_
    have hk : ∀ C : AV → Hp → Prop, (if k0.row = true then sol H (ev E v) else fun C => C (ev E v) H) C ↔ ∃ p, (if k0.row = true then solo H (ev E v) else some (ev E v, H)) = some p ∧ C p.1 p.2 := by
      intro C
      by_cases hr : k0.row = true
      · simp only [hr, if_true, sol_eq]
      · simp only [if_neg hr, ex_some]
    rw [hk]
    refine exists_congr fun p => and_congr_right fun _ => exists_congr fun k => and_congr_right fun _ => and_congr_right fun _ => and_congr_right fun _ => and_congr_right fun _ => exists_congr fun y => and_congr_right fun _ => ?_
    cases f with
    | none => simp only [ex_ifo, ex_some]
    | some j =>
      cases y with
      | agg fs =>
        simp only [ex_ifo, ex_some, and_assoc]
        exact ⟨fun ⟨_, e, h⟩ => by cases e; exact h, fun h => ⟨_, rfl, h⟩⟩
      | _ => exact ⟨fun ⟨_, e, h⟩ => (by cases e), fun ⟨_, e, h⟩ => (by cases e)⟩
  | _ => simp only [stv, ex_none]
def srcv (H : Hp) : AV → Option (List AV)
  | .lsl _ m ys => if m ≤ ys.length then some (ys.take m) else none
  | .emp => some []
  | .own d' b s' m => (H d').bind fun k => if k.b = b ∧ k.s = s' ∧ m ≤ k.xs.length then some (k.xs.take m) else none
  | _ => none
def bap (n d s bytes : Nat) (fr kp : Bool) (E : Env) (H : Hp) (x : AV) (ys : List AV) (K : Env → Hp → Nat → Prop) (_ : Tg E := .mk) (_ : Tg H := .mk) (_ : Tg K := .mk) : Prop :=
  match x with
  | .emp => (ys = [] → K (upd E d .emp) H n) ∧ (ys ≠ [] → ys.length * bytes ≤ 140737488355328 ∧ ys.length ≤ 140737488355328 ∧
          ∀ b n', n ≤ b → b < n' → K (upd E d (.own d b s ys.length)) (updH H d (some ⟨b, s, ys, false, !kp, false⟩)) n')
  | .own d' b s' len => ∃ k, H d' = some k ∧ k.b = b ∧ k.s = s ∧ s' = s ∧ k.fz = false ∧ (fr = true → k.ex = true) ∧ len = k.xs.length ∧ (len + ys.length) * bytes ≤ 140737488355328 ∧ len + ys.length ≤ 140737488355328 ∧
          ∀ b' n', n ≤ n' → (b' = b ∨ n ≤ b' ∧ b' < n') → K (upd E d (.own d' b' s (len + ys.length))) (updH H d' (some ⟨b', s, k.xs ++ ys, false, k.row, false⟩)) n'
  | _ => False
theorem src_eq (E : Env) (H : Hp) (y : Opd) (C : List AV → Prop) : srcOf E H y C ↔ ∃ ys, srcv H (ev E y) = some ys ∧ C ys := by
  unfold srcOf
  cases ev E y <;> simp only [srcv, ex_none, ex_some, ex_ifo, ex_bind, and_assoc]
theorem o_app (d s : Nat) (x y : Opd) (bytes : Nat) (fr kp : Bool) : vops L (⟨none, .app d s x y bytes fr kp⟩ :: os) K E H n = bv (ev E y) fun v => bo (srcv H v) fun ys => breq (allsz s ys = true) (bap n d s bytes fr kp E H (ev E x) ys (vops L os K)) := by
  have h := propext (src_eq E H y fun ys => (∀ z ∈ ys, z.sz = s) ∧ bap n d s bytes fr kp E H (ev E x) ys (vops L os K))
  simp only [bv, bo, breq, ← allsz_iff]
  exact h
theorem o_callm (d : Nat) (f : Opd) (xs : List Opd) : vops L (⟨none, .callm d f xs⟩ :: os) K E H n = bo (fnv (ev E f)) fun g =>
    bcallm L g.1 (xs.map (ev E) ++ g.2) H n fun lo hi r H' => vops L os K (upd E d r) H' hi := by
  simp only [vops, vgop, va, bo, bcallm]
  cases ev E f <;> simp only [fnv, ex_none, ex_some] <;> simp
  exact ⟨fun ⟨_, _, ⟨rfl, rfl⟩, h⟩ => h, fun h => ⟨_, _, ⟨rfl, rfl⟩, h⟩⟩
def bres (imp : Bool) (d lo hi : Nat) (E : Env) (H : Hp) (ks : List Nat) (r : AV) (K : Env → Hp → Nat → Prop) (_ : Tg E := .mk) (_ : Tg H := .mk) (_ : Tg K := .mk) : Prop :=
  if r.scal = true then K (upd E d r) H hi else impv imp d lo E (frz H ks) r fun E' H' => K E' H' hi
theorem o_call (d : Nat) (f : Opd) (xs : List Opd) (imp fl : Bool) : vops L (⟨none, .call d f xs imp fl⟩ :: os) K E H n = bo (fnv (ev E f)) fun g => bo (rdAo fl H (xs.map (ev E) ++ g.2)) fun p =>
    bcall L g.1 p.1 n fun lo hi r => bres imp d lo hi E H p.2 r (vops L os K) := by
  simp only [vops, vgop, va, bo, bcall, bres, rdA_eq]
  cases ev E f <;> simp only [fnv, ex_none, ex_some] <;> simp
  exact ⟨fun ⟨_, _, ⟨rfl, rfl⟩, h⟩ => h, fun h => ⟨_, _, ⟨rfl, rfl⟩, h⟩⟩
theorem r_bool (imp : Bool) (d lo hi : Nat) (ks : List Nat) (b : Bool) : bres imp d lo hi E H ks (.bool b) K = K (upd E d (.bool b)) H hi := propext Iff.rfl
theorem r_int (imp : Bool) (d lo hi : Nat) (ks : List Nat) (k : IntKind) (i : Int) : bres imp d lo hi E H ks (.int k i) K = K (upd E d (.int k i)) H hi := propext Iff.rfl
theorem r_str (imp : Bool) (d lo hi : Nat) (ks : List Nat) (s : ByteArray) : bres imp d lo hi E H ks (.str s) K = K (upd E d (.str s)) H hi := propext Iff.rfl
theorem r_undef (imp : Bool) (d lo hi : Nat) (ks : List Nat) : bres imp d lo hi E H ks .undef K = K (upd E d .undef) H hi := propext Iff.rfl
theorem r_lsl (d lo hi : Nat) (ks : List Nat) (t : Option (Nat × Nat)) (len : Nat) (xs : List AV) : bres false d lo hi E H ks (.lsl t len xs) K = K (upd E d (.lsl t len xs)) (frz H ks) hi := by
  simp only [bres, AV.scal, impv]
  rfl
theorem r_emp (imp : Bool) (d lo hi : Nat) (ks : List Nat) : bres imp d lo hi E H ks .emp K = K (upd E d .emp) (frz H ks) hi := by
  cases imp <;> rfl
theorem r_agg (imp : Bool) (d lo hi : Nat) (ks : List Nat) (fs : List AV) : bres imp d lo hi E H ks (.agg fs) K = K (upd E d (.agg fs)) (frz H ks) hi := by
  cases imp <;> rfl

/-! ### guards, code, results -/
def skipE (E : Env) : Option Nat → Env
  | some d => upd E d (.tup [])
  | none => E
theorem o_gt (t : Nat) (o : VOp) : vops L (⟨some (t, true), o⟩ :: os) K E H n = bg (E t) true (vops L (⟨none, o⟩ :: os) K E H n) (vops L os K (skipE E o.dst) H n) := by
  simp only [vops, vgop, bg]
  cases o.dst <;> rfl
theorem o_gf (t : Nat) (o : VOp) : vops L (⟨some (t, false), o⟩ :: os) K E H n = bg (E t) false (vops L (⟨none, o⟩ :: os) K E H n) (vops L os K (skipE E o.dst) H n) := by
  simp only [vops, vgop, bg]
  cases o.dst <;> rfl
theorem bg_tt (A B : Prop) : bg (.bool true) true A B .mk .mk = A := by simp [bg]
theorem bg_ff (A B : Prop) : bg (.bool false) false A B .mk .mk = A := by simp [bg]
theorem bg_tf (A B : Prop) : bg (.bool true) false A B .mk .mk = B := by simp [bg]
theorem bg_ft (A B : Prop) : bg (.bool false) true A B .mk .mk = B := by simp [bg]
theorem bg_un (w : Bool) (A B : Prop) : bg (.tup []) w A B .mk .mk = B := by simp [bg]
theorem bg_dt (p : Prop) [h : Decidable p] (A B : Prop) : bg (.bool (decide p)) true A B .mk .mk = vif p A B .mk .mk := by
  by_cases hp : p <;> simp [bg, vif, hp]
theorem bg_df (p : Prop) [h : Decidable p] (A B : Prop) : bg (.bool (decide p)) false A B .mk .mk = vif p B A .mk .mk := by
  by_cases hp : p <;> simp [bg, vif, hp]
theorem bg_nt (b : Bool) (A B : Prop) : bg (.bool (!b)) true A B .mk .mk = bg (.bool b) false A B .mk .mk := by cases b <;> simp [bg]
theorem bg_nf (b : Bool) (A B : Prop) : bg (.bool (!b)) false A B .mk .mk = bg (.bool b) true A B .mk .mk := by cases b <;> simp [bg]
theorem skipE_some (d : Nat) : skipE E (some d) = upd E d (.tup []) := Eq.trans rfl rfl
theorem skipE_none : skipE E none = E := Eq.trans rfl rfl

theorem w_skip : vwp L .skip Q E H n = Q .normal E H n := propext Iff.rfl
theorem w_reg (ops : List GOp) (ord : List Nat) : vwp L (.reg ops ord) Q E H n = vops L ops (Q .normal) E H n := propext Iff.rfl
theorem w_seq (a b : VC) : vwp L (.seq a b) Q E H n = vwp L a (Q.then fun E' H' n' => vwp L b Q E' H' n') E H n := propext Iff.rfl
theorem w_cond (c : Opd) (a b : VC) : vwp L (.cond c a b) Q E H n = bb (ev E c) (vwp L a Q E H n) (vwp L b Q E H n) := propext Iff.rfl
theorem w_block (id : Nat) (c : VC) : vwp L (.block id c) Q E H n = vwp L c (Q.inBlock id) E H n := propext Iff.rfl
theorem w_loop (c : VC) : vwp L (.loop c) Q E H n = bloop L c Q E H n := propext Iff.rfl
theorem w_exit (id : Nat) : vwp L (.exit id) Q E H n = Q (.exit id) E H n := propext Iff.rfl
theorem w_ghost (c : VC) : vwp L (.ghost c) Q E H n = bgh L E H n fun E' H' => vwp L c Q E' H' n := propext Iff.rfl
theorem w_ret : vwp L .ret Q E H n = Q .ret E H n := propext Iff.rfl
theorem t_normal : Q.then K .normal E H n = K E H n := propext Iff.rfl
theorem t_ret : Q.then K .ret E H n = Q .ret E H n := propext Iff.rfl
theorem t_exit (id : Nat) : Q.then K (.exit id) E H n = Q (.exit id) E H n := propext Iff.rfl
theorem b_normal (id : Nat) : Q.inBlock id .normal E H n = Q .normal E H n := propext Iff.rfl
theorem b_ret (id : Nat) : Q.inBlock id .ret E H n = Q .ret E H n := propext Iff.rfl
theorem b_exit (id id' : Nat) : Q.inBlock id (.exit id') E H n = if id' = id then Q .normal E H n else Q (.exit id') E H n := propext Iff.rfl
def getRo (E : Env) (H : Hp) : List RVr → Option (List AV)
  | [] => some []
  | .tmp t :: rs => (getRo E H rs).bind fun vs => some (E t :: vs)
  | .cell t sz :: rs => (ldv H sz (E t)).bind fun v => (getRo E H rs).bind fun vs => some (v :: vs)
theorem getR_eq (rs : List RVr) (C : List AV → Prop) : getR E H rs C ↔ ∃ vs, getRo E H rs = some vs ∧ C vs := by
  induction rs generalizing C with
  | nil => simp only [getR, getRo, ex_some]
  | cons r rs ih =>
    cases r with
    | tmp t => simp only [getR, getRo, ex_bind, ex_some, ih]
    | cell t sz =>
      simp only [getR, getRo, ex_bind, ex_some, ldq_eq, ih, ev_t]
theorem f_ret (rs : List RVr) (lo : Nat) (R : Nat → Nat → AV → Prop) : fnPost rs lo R .ret E H n = bo (getRo E H rs) fun vs => bo (solEo H vs) fun p => R lo n (mkR p.1) := by
  simp only [fnPost, getR_eq, solE_eq, bo]
theorem f_normal (rs : List RVr) (lo : Nat) (R : Nat → Nat → AV → Prop) : fnPost rs lo R .normal E H n = bo (getRo E H rs) fun vs => bo (solEo H vs) fun p => R lo n (mkR p.1) := by
  simp only [fnPost, getR_eq, solE_eq, bo]
def noTup (vs : List AV) : Bool := vs.all fun v => match v with | .tup _ => false | _ => true
theorem noTup_iff (vs : List AV) : (∀ v ∈ vs, ∀ us, v ≠ .tup us) ↔ noTup vs = true := by
  simp only [noTup, List.all_eq_true]
  refine forall_congr' fun v => imp_congr_right fun _ => ?_
  cases v <;> simp
theorem fm_ret (rs : List RVr) (lo : Nat) (R : Nat → Nat → AV → Hp → Prop) : fnPostM rs lo R .ret E H n = bo (getRo E H rs) fun vs => breq (noTup vs = true) (R lo n (mkR vs) H) := by
  simp only [fnPostM, getR_eq, bo, breq, noTup_iff]
theorem fm_normal (rs : List RVr) (lo : Nat) (R : Nat → Nat → AV → Hp → Prop) : fnPostM rs lo R .normal E H n = bo (getRo E H rs) fun vs => breq (noTup vs = true) (R lo n (mkR vs) H) := by
  simp only [fnPostM, getR_eq, bo, breq, noTup_iff]
theorem mkR_one (v : AV) : mkR [v] = v := Eq.trans rfl rfl

/-- A loop: what holds at its head, counted down; X: what holds where it is left. -/
theorem loop_rule {c : VC} (I : Nat → Env → Hp → Nat → Prop) (X : Post) (m : Nat) (h : I m E H n) (hX : ∀ e E H n, X e E H n → Q e E H n)
    (hs : ∀ m E H n (Q' : Post) (K : Env → Hp → Nat → Prop), I m E H n → (∀ e E H n, X e E H n → Q' e E H n) → (∀ m' E' H' n', m = m' + 1 → I m' E' H' n' → K E' H' n') → vwp L c (Q'.then K) E H n) : bloop L c Q E H n := by
  refine ⟨m + 1, ?_⟩
  induction m generalizing E H n with
  | zero => exact hs 0 E H n Q _ h hX fun m' _ _ _ e => by cases e
  | succ m ih => exact hs (m + 1) E H n Q _ h hX fun m' E' H' n' e hI => ih (by cases e; exact hI)
theorem callm_rule (G : Nat → Bool) {g : FuncId} {args : List AV} {C : Nat → Nat → AV → Hp → Prop} {R : Nat → Nat → AV → Hp → Prop} (h : L.m g args (givenH G H) R) (hf : ∀ d k, G d = true → H d = some k → k.fz = false)
    (hk : ∀ lo hi r H', n ≤ lo → lo ≤ hi → R lo hi r H' → (∀ d k, H' d = some k → G d = true) ∧ C lo hi r (backH G H H')) : bcallm L g args H n C := ⟨G, R, h, hf, hk⟩
theorem ghost_rule {C : Env → Hp → Prop} (E' : Env) (H' : Hp) (h : L.g E H n E' H') (hk : C E' H') : bgh L E H n C := ⟨E', H', h, hk⟩
theorem call_rule {l : FuncId → Law} {m : FuncId → LawM} {gh : Env → Hp → Nat → Env → Hp → Prop} {g : FuncId} {args : List AV} {C : Nat → Nat → AV → Prop} {R : Nat → Nat → AV → Prop} (h : l g args R) (hk : ∀ lo hi r, n ≤ lo → lo ≤ hi → R lo hi r → C lo hi r) : bcall ⟨l, m, gh⟩ g args n C := ⟨R, h, hk⟩
end Go.AVM
