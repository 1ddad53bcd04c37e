/- The abstract machine's steps as equations that simp can take one at a time: what each operation gives is bound ahead of the rest. -/
import Derived.Test.YtflhfmpkmbhaiaaME
namespace Go.AVM
set_option linter.unusedVariables false
set_option linter.unusedSimpArgs false

/-! ### the bindings: simp looks at what is bound alone -/
/-- a mark: simp leaves what is marked as it is -/
inductive Tg {α : Type} (a : α) : Type
  | mk
def bv {α : Type} (v : α) (K : α → Prop) (_ : Tg K := .mk) : Prop := K v
def bo {α : Type} (o : Option α) (K : α → Prop) (_ : Tg K := .mk) : Prop := ∃ x, o = some x ∧ K x
def vif (c A B : Prop) (_ : Tg A := .mk) (_ : Tg B := .mk) : Prop := (c → A) ∧ (¬ c → B)
def bb (v : AV) (A B : Prop) (_ : Tg A := .mk) (_ : Tg B := .mk) : Prop := ∃ t, v = .bool t ∧ if t = true then A else B
def bg (v : AV) (want : Bool) (A B : Prop) (_ : Tg A := .mk) (_ : Tg B := .mk) : Prop :=
  match v with
  | .bool b => if b = want then A else B
  | .tup [] => B
  | _ => False
def ballF (H : Hp) (K : Nat → Prop) (_ : Tg H := .mk) (_ : Tg K := .mk) : Prop := ∀ b, (∀ q k, H q = some k → k.b ≠ b) → K b
def ball (n : Nat) (K : Nat → Prop) (_ : Tg K := .mk) : Prop := ∀ b, n ≤ b → K b
def bmk (d s l n : Nat) (z : AV) (E : Env) (H : Hp) (K : Env → Hp → Nat → Prop) (_ : Tg E := .mk) (_ : Tg H := .mk) (_ : Tg K := .mk) : Prop :=
  ∃ kk : Nat → Nat, ∀ b, n ≤ b → K (upd E d (.own (kk b) b s l)) (updH H (kk b) (some ⟨b, s, List.replicate l z, false, true, true⟩)) (b + 1)
def bcallm (L : Laws) (g : FuncId) (args : List AV) (H : Hp) (n : Nat) (K : Nat → Nat → AV → Hp → Prop) (_ : Tg L := .mk) (_ : Tg H := .mk) (_ : Tg K := .mk) : Prop :=
  ∃ (G : Nat → Bool) (R : Nat → Nat → AV → Hp → Prop), L.m g args (givenH G H) R ∧ (∀ d k, G d = true → H d = some k → k.fz = false) ∧
      ∀ lo hi r H', n ≤ lo → lo ≤ hi → R lo hi r H' → (∀ d k, H' d = some k → G d = true) ∧ K lo hi r (backH G H H')
def bgh (L : Laws) (E : Env) (H : Hp) (n : Nat) (K : Env → Hp → Prop) (_ : Tg L := .mk) (_ : Tg E := .mk) (_ : Tg H := .mk) (_ : Tg K := .mk) : Prop := ∃ E' H', L.g E H n E' H' ∧ K E' H'
def bcall (L : Laws) (g : FuncId) (args : List AV) (n : Nat) (K : Nat → Nat → AV → Prop) (_ : Tg L := .mk) (_ : Tg K := .mk) : Prop :=
  ∃ R, L.l g args R ∧ ∀ lo hi r, n ≤ lo → lo ≤ hi → R lo hi r → K lo hi r
def bloop (L : Laws) (c : VC) (Q : Post) (E : Env) (H : Hp) (n : Nat) (_ : Tg L := .mk) (_ : Tg c := .mk) (_ : Tg Q := .mk) (_ : Tg E := .mk) (_ : Tg H := .mk) : Prop := vwp L (.loop c) Q E H n

theorem bv_eq {α : Type} (v : α) (K : α → Prop) : bv v K .mk = K v := propext Iff.rfl
theorem bo_some {α : Type} (v : α) (K : α → Prop) : bo (some v) K .mk = K v := by simp [bo]
theorem bo_none {α : Type} (K : α → Prop) : bo none K .mk = False := by simp [bo]
theorem vif_true (A B : Prop) : vif True A B .mk .mk = A := by simp [vif]
theorem vif_false (A B : Prop) : vif False A B .mk .mk = B := by simp [vif]
theorem bb_true (A B : Prop) : bb (.bool true) A B .mk .mk = A := by simp [bb]
theorem bb_false (A B : Prop) : bb (.bool false) A B .mk .mk = B := by simp [bb]
theorem bb_dec (p : Prop) [h : Decidable p] (A B : Prop) : bb (.bool (decide p)) A B .mk .mk = vif p A B .mk .mk := by
  by_cases hp : p <;> simp [bb, vif, hp]
theorem bb_not (b : Bool) (A B : Prop) : bb (.bool (!b)) A B .mk .mk = bb (.bool b) B A .mk .mk := by cases b <;> simp [bb]
theorem vif_not (c A B : Prop) : vif (¬ c) A B .mk .mk = vif c B A .mk .mk := by
  by_cases h : c <;> simp [vif, h]

/-! ### the operations -/
def pickv : AV → AV → AV → Option AV
  | .bool b, x, y => some (if b = true then x else y)
  | _, _, _ => none
def notv : AV → Option AV
  | .bool b => some (.bool (!b))
  | _ => none
def idxv : AV → AV → Option AV
  | .str s, .int _ i => if 0 ≤ i then (s.data[i.toNat]?).map fun c => .int .u8 c.toNat else none
  | _, _ => none
def idxAv (s : Nat) : AV → AV → Option AV
  | .lsl _ len xs, .int _ i => if 0 ≤ i ∧ i < len then (xs[i.toNat]?).bind fun y => if y.sz = s then some (.lptr y) else none else none
  | .own d b s' len, .int _ i => if 0 ≤ i ∧ i < len ∧ s' = s then some (.optr d b s i.toNat none) else none
  | _, _ => none
def fldAv (f : Nat) : AV → Option AV
  | .lptr (.agg fs) => (fs[f]?).bind fun y => if y.isAgg = false ∧ y.sz = 1 then some (.lptr y) else none
  | .optr d b s i none => if f < s then some (.optr d b s i (some f)) else none
  | _ => none
def fitsz (sz : Option Nat) (y : AV) : Bool :=
  match sz, y with
  | some m, .agg fs => fs.length == m
  | none, .agg _ => false
  | none, _ => true
  | _, _ => false
def ldv (H : Hp) (sz : Option Nat) : AV → Option AV
  | .lptr y => if fitsz sz y = true ∧ (sz = none → y.sz = 1) then some y else none
  | .optr d b s i none => (H d).bind fun k => if k.b = b ∧ k.s = s then (k.xs[i]?).bind fun y => if fitsz sz y = true ∧ (sz = none → s = 1) then some y else none else none
  | .optr d b s i (some f) => (H d).bind fun k => if k.b = b ∧ k.s = s ∧ sz = none then (k.xs[i]?).bind fun
      | .agg fs => (fs[f]?).bind fun y => if y.isAgg = false then some y else none
      | _ => none else none
  | _ => none
def extv (i : Nat) : AV → Option AV
  | .tup vs => vs[i]?
  | _ => none
def fldv (f : Nat) : AV → Option AV
  | .agg fs => (fs[f]?).bind fun y => if y.isAgg = false then some y else none
  | _ => none
def convv (k : IntKind) : AV → Option AV
  | .int _ n => some (.int k (k.wrap n))
  | _ => none
def mxv (gt : Bool) : AV → AV → Option AV
  | .int k a, .int j b => if k = j then some (.int k (if gt = true then (if b > a then b else a) else (if b < a then b else a))) else none
  | _, _ => none
def nilv : AV → Option AV
  | .lptr y => some (.lptr y)
  | .optr d b s i f => some (.optr d b s i f)
  | .fn f c => some (.fn f c)
  | _ => none
def small (xs : List AV) : Bool := xs.all fun x => !x.isAgg && x.sz == 1
def bldv (xs : List AV) : Option AV := if small xs = true then some (.agg xs) else none
def mkfv (f : Nat) (xs : List AV) : Option AV := if small xs = true then some (.fn f xs) else none
def slc0v : AV → Option AV
  | .lsl _ _ _ | .own _ _ _ _ | .emp => some .emp
  | _ => none
def hdOk (s : Nat) (xs : List AV) : Bool := match xs with | [] => true | y :: _ => y.sz == s
def slcv (H : Hp) (s : Nat) : AV → Option AV → Option AV → Option AV
  | .str v, none, some (.int _ h) => if s = 0 ∧ 0 ≤ h ∧ h ≤ v.size then some (.str (v.extract 0 h.toNat)) else none
  | .str v, some (.int _ l), none => if s = 0 ∧ 0 ≤ l ∧ l ≤ v.size then some (.str (v.extract l.toNat v.size)) else none
  | .str v, some (.int _ l), some (.int _ h) => if s = 0 ∧ 0 ≤ l ∧ l ≤ h ∧ h ≤ v.size then some (.str (v.extract l.toNat h.toNat)) else none
  | .lsl t _ xs, none, some (.int _ h) => if 0 < s ∧ 0 ≤ h ∧ h ≤ xs.length then some (.lsl t h.toNat xs) else none
  | .lsl _ len xs, some (.int _ l), none => if 0 < s ∧ 0 ≤ l ∧ l ≤ len ∧ hdOk s xs = true then some (.lsl none (len - l.toNat) (xs.drop l.toNat)) else none
  | .lsl _ _ xs, some (.int _ l), some (.int _ h) => if 0 < s ∧ 0 ≤ l ∧ l ≤ h ∧ h ≤ xs.length ∧ hdOk s xs = true then some (.lsl none (h.toNat - l.toNat) (xs.drop l.toNat)) else none
  | .own d' b s' _, none, some (.int _ h) => (H d').bind fun k => if 0 < s ∧ k.b = b ∧ k.s = s' ∧ 0 ≤ h ∧ h ≤ k.xs.length then some (.own d' b s' h.toNat) else none
  | .emp, none, some (.int _ 0) => if 0 < s then some .emp else none
  | _, _, _ => none

variable {L : Laws} {os : List GOp} {K : Env → Hp → Nat → Prop} {E : Env} {H : Hp} {n : Nat} {Q : Post}

theorem ev_t (t : Nat) : ev E (.t t) = E t := Eq.trans rfl rfl
theorem ev_c (v : AV) : ev E (.c v) = v := Eq.trans rfl rfl
theorem upd_at (d : Nat) (v : AV) (t : Nat) : upd E d v t = if t = d then v else E t := Eq.trans rfl rfl
theorem updH_at (d : Nat) (v : Option Blk) (t : Nat) : updH H d v t = if t = d then v else H t := Eq.trans rfl rfl

theorem vops_nil : vops L [] K E H n = K E H n := propext Iff.rfl
theorem o_mv (d : Nat) (x : Opd) : vops L (⟨none, .mv d x⟩ :: os) K E H n = bv (ev E x) fun v => vops L os K (upd E d v) H n := propext Iff.rfl
theorem o_bin (d : Nat) (op : BinOp) (x y : Opd) : vops L (⟨none, .bin d op x y⟩ :: os) K E H n = bo (binv op (ev E x) (ev E y)) fun v => vops L os K (upd E d v) H n := propext Iff.rfl
theorem o_not (d : Nat) (x : Opd) : vops L (⟨none, .not d x⟩ :: os) K E H n = bo (notv (ev E x)) fun v => vops L os K (upd E d v) H n := by
  simp only [vops, vgop, va, vq, bo]
  cases ev E x <;> simp [notv]
def beqv (neg : Bool) : AV → AV → Option AV
  | .bool a, .bool b => some (.bool (if neg = true then !(a == b) else (a == b)))
  | _, _ => none
theorem o_beq (d : Nat) (neg : Bool) (x y : Opd) : vops L (⟨none, .beq d neg x y⟩ :: os) K E H n = bo (beqv neg (ev E x) (ev E y)) fun v => vops L os K (upd E d v) H n := by
  simp only [vops, vgop, va, vq, bo]
  cases ev E x <;> cases ev E y <;> simp [beqv]
theorem o_pick (d : Nat) (c x y : Opd) : vops L (⟨none, .pick d c x y⟩ :: os) K E H n = bo (pickv (ev E c) (ev E x) (ev E y)) fun v => vops L os K (upd E d v) H n := by
  simp only [vops, vgop, va, vq, bo]
  cases ev E c <;> simp [pickv]
theorem o_len (d : Nat) (b : Bool) (x : Opd) : vops L (⟨none, .len d b x⟩ :: os) K E H n = bo (lenv b (ev E x)) fun m => vops L os K (upd E d (.int .i64 m)) H n := propext Iff.rfl
theorem ex_if {α : Type} {c : Prop} [Decidable c] {v : α} {K : α → Prop} : (∃ x, (if c then some v else none) = some x ∧ K x) ↔ c ∧ K v := by
  by_cases h : c <;> simp [h]
theorem ex_ifo {α : Type} {c : Prop} [Decidable c] {o : Option α} {K : α → Prop} : (∃ x, (if c then o else none) = some x ∧ K x) ↔ c ∧ ∃ x, o = some x ∧ K x := by
  by_cases h : c <;> simp [h]
theorem ex_bind {α β : Type} {o : Option α} {f : α → Option β} {K : β → Prop} : (∃ x, o.bind f = some x ∧ K x) ↔ ∃ y, o = some y ∧ ∃ x, f y = some x ∧ K x := by
  cases o <;> simp
theorem ex_map {α β : Type} {o : Option α} {f : α → β} {K : β → Prop} : (∃ x, o.map f = some x ∧ K x) ↔ ∃ y, o = some y ∧ K (f y) := by
  cases o <;> simp
theorem ex_none {α : Type} {K : α → Prop} : (∃ x, (none : Option α) = some x ∧ K x) ↔ False := by simp
theorem ex_some {α : Type} {v : α} {K : α → Prop} : (∃ x, some v = some x ∧ K x) ↔ K v := by simp
theorem o_idx (d : Nat) (x i : Opd) : vops L (⟨none, .idx d x i⟩ :: os) K E H n = bo (idxv (ev E x) (ev E i)) fun v => vops L os K (upd E d v) H n := by
  simp only [vops, vgop, va, vq, bo]
  cases ev E x <;> cases ev E i <;> simp only [idxv, ex_ifo, ex_map, ex_none]
  exact propext ⟨fun ⟨c, h1, h2, h3⟩ => ⟨h2, c, h1, h3⟩, fun ⟨h2, c, h1, h3⟩ => ⟨c, h1, h2, h3⟩⟩
theorem o_idxA (d s : Nat) (x i : Opd) : vops L (⟨none, .idxA d s x i⟩ :: os) K E H n = bo (idxAv s (ev E x) (ev E i)) fun v => vops L os K (upd E d v) H n := by
  simp only [vops, vgop, va, vq, bo]
  cases ev E x <;> cases ev E i <;> simp only [idxAv, ex_ifo, ex_bind, ex_some, ex_none, and_assoc]
  · exact propext ⟨fun ⟨c, h1, h2, h3, h4, h5⟩ => ⟨h2, h3, c, h1, h4, h5⟩, fun ⟨h2, h3, c, h1, h4, h5⟩ => ⟨c, h1, h2, h3, h4, h5⟩⟩
theorem o_fldA (d : Nat) (x : Opd) (f : Nat) : vops L (⟨none, .fldA d x f⟩ :: os) K E H n = bo (fldAv f (ev E x)) fun v => vops L os K (upd E d v) H n := by
  simp only [vops, vgop, va, vq, bo]
  cases ev E x with
  | lptr y => cases y <;> simp only [fldAv, ex_bind, ex_ifo, ex_some, ex_none, and_assoc]
  | optr d b s i g => cases g <;> simp only [fldAv, ex_if, ex_none]
  | _ => simp only [fldAv, ex_none]
theorem ldq_eq (d : Nat) (x : Opd) (sz : Option Nat) (C : Nat → AV → Prop) : vq E H (.ld d x sz) C = ∃ v, ldv H sz (ev E x) = some v ∧ C d v := by
  simp only [vq]
  cases ev E x with
  | lptr y =>
    simp only [ldv, ex_if]
    cases sz <;> cases y <;> simp [fitsz, AV.isAgg]
  | optr d b s i g =>
    cases g with
    | none =>
      simp only [ldv, ex_ifo, ex_bind, ex_some, and_assoc]
      refine congrArg _ (funext fun k => ?_)
      refine congrArg _ (congrArg _ (congrArg _ (congrArg _ (funext fun y => congrArg _ ?_))))
      cases sz <;> cases y <;> simp [fitsz, AV.isAgg]
    | some g =>
      simp only [ldv, ex_ifo, ex_bind, ex_some, and_assoc]
      refine propext ⟨fun ⟨k, h1, h2, h3, fs, h4, y, h5, h6, h7, h8⟩ => ⟨k, h1, h2, h3, h7, _, h4, ?_⟩, fun ⟨k, h1, h2, h3, h4, z, h5, h6⟩ => ⟨k, h1, h2, h3, ?_⟩⟩
      · simp only [ex_bind, ex_if]
        exact ⟨y, h5, h6, h8⟩
      · cases z <;> simp only [ex_bind, ex_ifo, ex_some, ex_none] at h6
        obtain ⟨y, h7, h8, h9⟩ := h6
        exact ⟨_, h5, y, h7, h8, h4, h9⟩
  | _ => simp only [ldv, ex_none]
theorem o_ld (d : Nat) (x : Opd) (sz : Option Nat) : vops L (⟨none, .ld d x sz⟩ :: os) K E H n = bo (ldv H sz (ev E x)) fun v => vops L os K (upd E d v) H n :=
  ldq_eq (E := E) (H := H) d x sz (fun d v => vops L os K (upd E d v) H n)
theorem hd_iff (s : Nat) (xs : List AV) : (∀ y, xs.head? = some y → y.sz = s) ↔ hdOk s xs = true := by
  cases xs <;> simp [hdOk]
theorem o_slc (d s : Nat) (x : Opd) (lo hi : Option Opd) : vops L (⟨none, .slc d s x lo hi⟩ :: os) K E H n = bo (slcv H s (ev E x) (lo.map (ev E)) (hi.map (ev E))) fun v => vops L os K (upd E d v) H n := by
  simp only [vops, vgop, va, vq, bo]
  generalize ev E x = u
  generalize lo.map (ev E) = l
  generalize hi.map (ev E) = h
  rcases u <;> rcases l with _ | l <;> rcases h with _ | h <;> (try rcases l) <;> (try rcases h) <;> simp only [slcv, ex_ifo, ex_bind, ex_none, ex_some, and_assoc, hd_iff] <;> (try simp only [ex_none])
  · rename_i k i
    by_cases hi : i = 0
    · subst hi
      simp only [slcv, ex_ifo, ex_some]
    · simp [slcv, hi]
  · rename_i d' b s' len k i
    refine propext ⟨fun ⟨h1, k, h2, h3, h4, h5, h6, h7⟩ => ⟨k, h2, h1, h3, h4, h5, h6, h7⟩, fun ⟨k, h2, h1, h3, h4, h5, h6, h7⟩ => ⟨h1, k, h2, h3, h4, h5, h6, h7⟩⟩
theorem o_slc0 (d : Nat) (x : Opd) : vops L (⟨none, .slc0 d x⟩ :: os) K E H n = bo (slc0v (ev E x)) fun v => vops L os K (upd E d v) H n := by
  simp only [vops, vgop, va, vq, bo]
  cases ev E x <;> simp [slc0v]
theorem o_ext (d : Nat) (x : Opd) (i : Nat) : vops L (⟨none, .ext d x i⟩ :: os) K E H n = bo (extv i (ev E x)) fun v => vops L os K (upd E d v) H n := by
  simp only [vops, vgop, va, vq, bo]
  cases ev E x <;> simp [extv]
theorem o_fld (d : Nat) (x : Opd) (f : Nat) : vops L (⟨none, .fld d x f⟩ :: os) K E H n = bo (fldv f (ev E x)) fun v => vops L os K (upd E d v) H n := by
  simp only [vops, vgop, va, vq, bo]
  cases ev E x <;> simp [fldv]
  simp only [ex_bind, ex_if]
theorem small_iff (xs : List AV) : (∀ x ∈ xs, x.isAgg = false ∧ x.sz = 1) ↔ small xs = true := by
  simp [small]
theorem o_bld (d : Nat) (xs : List Opd) : vops L (⟨none, .bld d xs⟩ :: os) K E H n = bo (bldv (xs.map (ev E))) fun v => vops L os K (upd E d v) H n := by
  simp only [vops, vgop, va, vq, bo, small_iff, bldv, ex_if]
theorem o_mkf (d f : Nat) (xs : List Opd) : vops L (⟨none, .mkf d f xs⟩ :: os) K E H n = bo (mkfv f (xs.map (ev E))) fun v => vops L os K (upd E d v) H n := by
  simp only [vops, vgop, va, vq, bo, small_iff, mkfv, ex_if]
theorem o_conv (d : Nat) (k : IntKind) (x : Opd) : vops L (⟨none, .conv d k x⟩ :: os) K E H n = bo (convv k (ev E x)) fun v => vops L os K (upd E d v) H n := by
  simp only [vops, vgop, va, vq, bo]
  cases ev E x <;> simp only [convv, ex_none, ex_some] <;> simp
  exact ⟨fun ⟨_, _, ⟨rfl, rfl⟩, h⟩ => h, fun h => ⟨_, _, ⟨rfl, rfl⟩, h⟩⟩
theorem o_mx (d : Nat) (gt : Bool) (x y : Opd) : vops L (⟨none, .mx d gt x y⟩ :: os) K E H n = bo (mxv gt (ev E x) (ev E y)) fun v => vops L os K (upd E d v) H n := by
  simp only [vops, vgop, va, vq, bo]
  generalize ev E x = u
  generalize ev E y = v
  refine propext ⟨?_, ?_⟩
  · rintro ⟨q, a, b, rfl, rfl, h⟩
    simp only [mxv, ex_if]
    exact ⟨trivial, h⟩
  · rintro ⟨w, h, h'⟩
    cases u <;> cases v <;> simp only [mxv, reduceCtorEq] at h
    split at h
    · rename_i e
      cases e
      cases h
      exact ⟨_, _, _, rfl, rfl, h'⟩
    · cases h
def negv : AV → Option AV
  | .int k n => some (.int k (k.wrap (-n)))
  | _ => none
def b2sv (H : Hp) : AV → Option AV
  | .own d' b s len => (H d').bind fun k => if k.b = b ∧ k.s = s ∧ s = 1 ∧ len ≤ k.xs.length then (u8s (k.xs.take len)).bind fun ns => some (.str (bytesOf ns)) else none
  | _ => none
def breq (c A : Prop) (_ : Tg A := .mk) : Prop := c ∧ A
theorem breq_true (A : Prop) : breq True A .mk = A := by simp [breq]
theorem breq_mk {c A : Prop} (h : c) (h' : A) : breq c A .mk := ⟨h, h'⟩
def bnil (v : AV) (ne : Bool) (K : AV → Prop) (_ : Tg K := .mk) : Prop :=
  match v with
  | .emp => ∀ b, K (.bool b)
  | .lsl none _ [] => ∀ b, K (.bool b)
  | .lsl _ _ _ => K (.bool ne)
  | .own _ _ _ _ => K (.bool ne)
  | _ => False
theorem o_isnil (d : Nat) (ne : Bool) (x : Opd) : vops L (⟨none, .isnil d ne x⟩ :: os) K E H n = bnil (ev E x) ne fun v => vops L os K (upd E d v) H n := by
  simp only [vops, vgop, va, vq, bnil]
  cases ev E x <;> rfl
/-- what stands behind an empty literal -/
def bucl (d s bytes n : Nat) (y : AV) (E : Env) (H : Hp) (K : Env → Hp → Nat → Prop) (_ : Tg E := .mk) (_ : Tg H := .mk) (_ : Tg K := .mk) : Prop :=
  H d = none ∧ ∃ ys, srcF y = some ys ∧ (∀ z ∈ ys, z.sz = s) ∧ ys.length * bytes ≤ 140737488355328 ∧ ys.length ≤ 140737488355328 ∧
      (ys = [] → K (upd E d .emp) H n) ∧ (ys ≠ [] → ∀ b, n ≤ b → (∀ q k, H q = some k → k.b ≠ b) → K (upd E d (.own d b s ys.length)) (updH H d (some ⟨b, s, ys, false, true, false⟩)) n)
def bup (n : Nat) (H : Hp) (K : Nat → Prop) (_ : Tg H := .mk) (_ : Tg K := .mk) : Prop := ∀ n', n ≤ n' → (∀ q k, H q = some k → k.b < n') → K n'
theorem o_uend : vops L (⟨none, .uend⟩ :: os) K E H n = bup n H fun n' => vops L os K E H n' := propext Iff.rfl
theorem o_uem (d s : Nat) : vops L (⟨none, .uem d s⟩ :: os) K E H n = breq (H d = none) (vops L os K (upd E d .emp) H n) := propext Iff.rfl
theorem o_ucl (d s : Nat) (x y : Opd) (bytes : Nat) : vops L (⟨none, .ucl d s x y bytes⟩ :: os) K E H n = breq (ev E x = .emp) (bucl d s bytes n (ev E y) E H (vops L os K)) := by
  simp only [vops, vgop, va, breq, bucl]
  exact propext ⟨fun ⟨h1, h2, h⟩ => ⟨h2, h1, h⟩, fun ⟨h2, h1, h⟩ => ⟨h1, h2, h⟩⟩
theorem o_ualcT (d s : Nat) (z : AV) : vops L (⟨none, .ualc d s z true⟩ :: os) K E H n = breq (z.sz = s ∧ H d = none) (ballF H fun b => vops L os K (upd E d (.optr d b s 0 none)) (updH H d (some ⟨b, s, [z], false, false, false⟩)) n) := by
  simp only [vops, vgop, va, breq, ballF, forall_const, and_assoc]
theorem o_ualcF (d s : Nat) (z : AV) : vops L (⟨none, .ualc d s z false⟩ :: os) K E H n = breq (z.sz = s) (ballF H fun b => vops L os K (upd E d (.optr d b s 0 none)) (updH H d (some ⟨b, s, [z], false, false, false⟩)) n) := by
  simp only [vops, vgop, va, breq, ballF, Bool.false_eq_true, false_implies, true_and]
theorem o_ubld (d : Nat) (xs : List Opd) : vops L (⟨none, .ubld d xs⟩ :: os) K E H n = bo (bldv (xs.map (ev E))) fun v => vops L os K (upd E d v) H n := by
  simp only [vops, vgop, va, bo, small_iff, bldv, ex_if]
theorem o_neg (d : Nat) (x : Opd) : vops L (⟨none, .neg d x⟩ :: os) K E H n = bo (negv (ev E x)) fun v => vops L os K (upd E d v) H n := by
  simp only [vops, vgop, va, vq, bo]
  cases ev E x <;> simp [negv]
  exact ⟨fun ⟨_, _, ⟨rfl, rfl⟩, h⟩ => h, fun h => ⟨_, _, ⟨rfl, rfl⟩, h⟩⟩
theorem o_b2s (d : Nat) (x : Opd) : vops L (⟨none, .b2s d x⟩ :: os) K E H n = bo (b2sv H (ev E x)) fun v => vops L os K (upd E d v) H n := by
  simp only [vops, vgop, va, vq, bo]
  cases ev E x <;> simp only [b2sv, ex_none, ex_bind, ex_ifo, ex_some, and_assoc]
theorem o_nil (d : Nat) (x : Opd) : vops L (⟨none, .nilck d x⟩ :: os) K E H n = bo (nilv (ev E x)) fun v => vops L os K (upd E d v) H n := by
  simp only [vops, vgop, va, vq, bo]
  cases ev E x <;> simp [nilv]

/-! ### the active ones -/
def intv : AV → Option Int
  | .int _ l => some l
  | _ => none
def fnv : AV → Option (FuncId × List AV)
  | .fn g caps => some (g, caps)
  | _ => none
def allsz (s : Nat) (xs : List AV) : Bool := xs.all fun x => x.sz == s
def solo1 (H : Hp) : AV → Option (AV × Hp)
  | .own d b s len => (H d).bind fun k => if k.b = b ∧ k.s = s ∧ len ≤ k.xs.length then some (.lsl (some (b, s)) len k.xs, updH H d none) else none
  | .optr .. => none
  | .fn .. => none
  | .tup _ => none
  | .agg _ => none
  | .undef => none
  | .old _ _ => none
  | v => some (v, H)
def solso (H : Hp) : List AV → Option (List AV × Hp)
  | [] => some ([], H)
  | v :: vs => (solo1 H v).bind fun p => (solso p.2 vs).bind fun q => some (p.1 :: q.1, q.2)
def solo (H : Hp) : AV → Option (AV × Hp)
  | .agg fs => (solso H fs).bind fun p => some (.agg p.1, p.2)
  | v => solo1 H v
def solEo (H : Hp) : List AV → Option (List AV × Hp)
  | [] => some ([], H)
  | v :: vs => (solo H v).bind fun p => (solEo p.2 vs).bind fun q => some (p.1 :: q.1, q.2)
theorem sol1_eq (H : Hp) (v : AV) (K : AV → Hp → Prop) : sol1 H v K ↔ ∃ p, solo1 H v = some p ∧ K p.1 p.2 := by
  cases v <;> simp only [sol1, solo1, ex_none, ex_some, ex_bind, ex_ifo, and_assoc]
theorem sols_eq (H : Hp) (vs : List AV) (K : List AV → Hp → Prop) : sols H vs K ↔ ∃ p, solso H vs = some p ∧ K p.1 p.2 := by
  induction vs generalizing H K with
  | nil => simp only [sols, solso, ex_some]
  | cons v vs ih => simp only [sols, solso, ex_bind, ex_some, sol1_eq, ih]
theorem sol_eq (H : Hp) (v : AV) (K : AV → Hp → Prop) : sol H v K ↔ ∃ p, solo H v = some p ∧ K p.1 p.2 := by
  cases v with
  | agg fs => simp only [sol, solo, sols_eq, ex_bind, ex_some]
  | _ => simp only [sol, solo, sol1_eq]
theorem solE_eq (H : Hp) (vs : List AV) (K : List AV → Hp → Prop) : solE H vs K ↔ ∃ p, solEo H vs = some p ∧ K p.1 p.2 := by
  induction vs generalizing H K with
  | nil => simp only [solE, solEo, ex_some]
  | cons v vs ih => simp only [solE, solEo, ex_bind, ex_some, sol_eq, ih]
def rd1o (fl : Bool) (H : Hp) : AV → Option (AV × List Nat)
  | .own d b s len => (H d).bind fun k => if k.b = b ∧ k.s = s ∧ len ≤ k.xs.length then some (.lsl none len (if fl = true then k.xs else k.xs.take len), [d]) else none
  | .lsl _ len xs => some (.lsl none len (if fl = true then xs else xs.take len), [])
  | .emp => some (.lsl none 0 [], [])
  | .bool b => some (.bool b, [])
  | .int k n => some (.int k n, [])
  | .str s => some (.str s, [])
  | .lptr x => some (.lptr x, [])
  | .fn f [] => some (.fn f [], [])
  | _ => none
def rdso (fl : Bool) (H : Hp) : List AV → Option (List AV × List Nat)
  | [] => some ([], [])
  | v :: vs => (rd1o fl H v).bind fun p => (rdso fl H vs).bind fun q => some (p.1 :: q.1, p.2 ++ q.2)
def rdpo (fl : Bool) (H : Hp) : AV → Option (AV × List Nat)
  | .agg fs => (rdso fl H fs).bind fun p => some (.agg p.1, p.2)
  | y => rd1o fl H y
def rd2o (fl : Bool) (H : Hp) : AV → Option (AV × List Nat)
  | .optr d b s i none => (H d).bind fun k => if k.b = b ∧ k.s = s then (k.xs[i]?).bind fun y => if y.sz = s then (rdpo fl H y).bind fun p => some (.lptr p.1, d :: p.2) else none else none
  | v => rdpo fl H v
def rds2o (fl : Bool) (H : Hp) : List AV → Option (List AV × List Nat)
  | [] => some ([], [])
  | v :: vs => (rd2o fl H v).bind fun p => (rds2o fl H vs).bind fun q => some (p.1 :: q.1, p.2 ++ q.2)
def rd3o (fl : Bool) (H : Hp) : AV → Option (AV × List Nat)
  | .fn f cap => (rds2o fl H cap).bind fun p => some (.fn f p.1, p.2)
  | .old _ x => rd2o fl H x
  | v => rd2o fl H v
def rdAo (fl : Bool) (H : Hp) : List AV → Option (List AV × List Nat)
  | [] => some ([], [])
  | v :: vs => (rd3o fl H v).bind fun p => (rdAo fl H vs).bind fun q => some (p.1 :: q.1, p.2 ++ q.2)
theorem rd1_eq (fl : Bool) (H : Hp) (v : AV) (K : AV → List Nat → Prop) : rd1 fl H v K ↔ ∃ p, rd1o fl H v = some p ∧ K p.1 p.2 := by
  cases v with
  | fn f c => cases c <;> simp only [rd1, rd1o, ex_none, ex_some]
  | _ => simp only [rd1, rd1o, ex_none, ex_some, ex_bind, ex_ifo, and_assoc]
theorem rds_eq (fl : Bool) (H : Hp) (vs : List AV) (K : List AV → List Nat → Prop) : rds fl H vs K ↔ ∃ p, rdso fl H vs = some p ∧ K p.1 p.2 := by
  induction vs generalizing K with
  | nil => simp only [rds, rdso, ex_some]
  | cons v vs ih => simp only [rds, rdso, ex_bind, ex_some, rd1_eq, ih]
theorem rd2_eq (fl : Bool) (H : Hp) (v : AV) (K : AV → List Nat → Prop) : rd2 fl H v K ↔ ∃ p, rd2o fl H v = some p ∧ K p.1 p.2 := by
  cases v with
  | agg fs => simp only [rd2, rd2o, rdpo, rds_eq, ex_bind, ex_some]
  | optr d b s i f =>
    cases f with
    | some _ => simp only [rd2, rd2o, rdpo, rd1_eq]
    | none =>
      simp only [rd2, rd2o, ex_bind, ex_ifo, and_assoc]
      refine exists_congr fun k => and_congr_right fun _ => and_congr_right fun _ => and_congr_right fun _ => exists_congr fun y => and_congr_right fun _ => and_congr_right fun _ => ?_
      cases y <;> simp only [rdpo, rds_eq, rd1_eq, ex_bind, ex_some]
  | _ => simp only [rd2, rd2o, rdpo, rd1_eq]
theorem rds2_eq (fl : Bool) (H : Hp) (vs : List AV) (K : List AV → List Nat → Prop) : rds2 fl H vs K ↔ ∃ p, rds2o fl H vs = some p ∧ K p.1 p.2 := by
  induction vs generalizing K with
  | nil => simp only [rds2, rds2o, ex_some]
  | cons v vs ih => simp only [rds2, rds2o, ex_bind, ex_some, rd2_eq, ih]
theorem rd3_eq (fl : Bool) (H : Hp) (v : AV) (K : AV → List Nat → Prop) : rd3 fl H v K ↔ ∃ p, rd3o fl H v = some p ∧ K p.1 p.2 := by
  cases v with
  | fn f c => simp only [rd3, rd3o, rds2_eq, ex_bind, ex_some]
  | _ => simp only [rd3, rd3o, rd2_eq]
theorem rdA_eq (fl : Bool) (H : Hp) (vs : List AV) (K : List AV → List Nat → Prop) : rdA fl H vs K ↔ ∃ p, rdAo fl H vs = some p ∧ K p.1 p.2 := by
  induction vs generalizing K with
  | nil => simp only [rdA, rdAo, ex_some]
  | cons v vs ih => simp only [rdA, rdAo, ex_bind, ex_some, rd3_eq, ih]

theorem o_alc (d s : Nat) (z : AV) : vops L (⟨none, .alc d s z⟩ :: os) K E H n = breq (z.sz = s) (ball n fun b => vops L os K (upd E d (.optr d b s 0 none)) (updH H d (some ⟨b, s, [z], false, false, false⟩)) (b + 1)) := propext Iff.rfl
theorem o_box (d s : Nat) (x : Opd) : vops L (⟨none, .box d s x⟩ :: os) K E H n = bv (ev E x) fun v => breq (v.sz = s ∧ 0 < s) (ball n fun b => vops L os K (upd E d (.optr d b s 0 none)) (updH H d (some ⟨b, s, [v], false, false, false⟩)) (b + 1)) := by
  simp only [vops, vgop, va, bv, breq, ball, and_assoc]
theorem o_mks (d s : Nat) (m : Opd) (z : AV) (bytes : Nat) : vops L (⟨none, .mks d s m z bytes⟩ :: os) K E H n = bo (intv (ev E m)) fun l => breq (0 ≤ l ∧ l * bytes ≤ 140737488355328 ∧ l ≤ 140737488355328)
    (bmk d s l.toNat n z E H (vops L os K)) := by
  simp only [vops, vgop, va, bo, breq, bmk, and_assoc]
  cases ev E m <;> simp only [intv, ex_none, ex_some] <;> simp
  exact ⟨fun ⟨_, _, ⟨rfl, rfl⟩, h⟩ => h, fun h => ⟨_, _, ⟨rfl, rfl⟩, h⟩⟩
theorem mk_at {d s l n : Nat} {z : AV} {E : Env} {H : Hp} {K : Env → Hp → Nat → Prop} {c : Prop} (hc : c) (h : ∀ b, n ≤ b → K (upd E d (.own d b s l)) (updH H d (some ⟨b, s, List.replicate l z, false, true, true⟩)) (b + 1)) : breq c (bmk d s l n z E H K) := ⟨hc, fun _ => d, h⟩
theorem mk_key (kk : Nat → Nat) {d s l n : Nat} {z : AV} {E : Env} {H : Hp} {K : Env → Hp → Nat → Prop} {c : Prop} (hc : c) (h : ∀ b, n ≤ b → K (upd E d (.own (kk b) b s l)) (updH H (kk b) (some ⟨b, s, List.replicate l z, false, true, true⟩)) (b + 1)) : breq c (bmk d s l n z E H K) := ⟨hc, kk, h⟩
theorem allsz_iff (s : Nat) (xs : List AV) : (∀ y ∈ xs, y.sz = s) ↔ allsz s xs = true := by simp [allsz]
theorem o_bls (d s : Nat) (xs : List Opd) : vops L (⟨none, .bls d s xs false⟩ :: os) K E H n = bo (solEo H (xs.map (ev E))) fun p => breq (allsz s p.1 = true)
    (ball n fun b => vops L os K (upd E d (.own d b s p.1.length)) (updH p.2 d (some ⟨b, s, p.1, false, true, true⟩)) (b + 1)) := by
  simp only [vops, vgop, va, bo, breq, ball, solE_eq, allsz_iff, Bool.false_eq_true, if_false]
theorem o_blk (d s : Nat) (xs : List Opd) : vops L (⟨none, .bls d s xs true⟩ :: os) K E H n = bv (xs.map (ev E)) fun ys => breq (allsz s ys = true)
    (ball n fun b => vops L os K (upd E d (.own d b s ys.length)) (updH H d (some ⟨b, s, ys, false, false, true⟩)) (b + 1)) := by
  simp only [vops, vgop, va, bv, breq, ball, allsz_iff, if_true, List.length_map]
def stv (H : Hp) (sz : Option Nat) (v : AV) : AV → Option Hp
  | .optr d b s i f => if (f.isSome = true → sz = none) ∧ fitsz sz v = true ∧ (sz = none → v.sz = 1) then
      (H d).bind fun k0 => (if k0.row = true then solo H v else some (v, H)).bind fun p => (p.2 d).bind fun k => if k.b = b ∧ k.s = s ∧ k.fz = false then
        (k.xs[i]?).bind fun y => (match f with
          | none => if p.1.sz = s then some (updH p.2 d (some { k with xs := k.xs.set i p.1 })) else none
          | some j => (match y with
            | .agg fs => if j < fs.length ∧ fs.length = s then some (updH p.2 d (some { k with xs := k.xs.set i (.agg (fs.set j p.1)) })) else none
            | _ => none)) else none else none
  | _ => none
theorem o_st (x v : Opd) (sz : Option Nat) : vops L (⟨none, .st x v sz⟩ :: os) K E H n = bo (stv H sz (ev E v) (ev E x)) fun H' => vops L os K E H' n := by
  simp only [vops, vgop, va, bo]
  cases ev E x with
  | optr d b s i f =>
    simp only [stv, ex_ifo, ex_bind, and_assoc]
    have hfit : (match sz with | none => (ev E v).isAgg = false ∧ (ev E v).sz = 1 | some m => ∃ fs, ev E v = .agg fs ∧ fs.length = m) ↔ (fitsz sz (ev E v) = true ∧ (sz = none → (ev E v).sz = 1)) := by
      cases sz <;> cases ev E v <;> simp [fitsz, AV.isAgg]
    refine propext (and_congr_right fun h1 => ?_)
    refine (and_congr (show _ ↔ _ from hfit) Iff.rfl).trans ?_
    rw [and_assoc]
    refine and_congr_right fun _ => and_congr_right fun _ => exists_congr fun k0 => and_congr_right fun _ => ?_
    have hk : ∀ C : AV → Hp → Prop, (if k0.row = true then sol H (ev E v) else fun C => C (ev E v) H) C ↔ ∃ p, (if k0.row = true then solo H (ev E v) else some (ev E v, H)) = some p ∧ C p.1 p.2 := by
      intro C
      by_cases hr : k0.row = true
      · simp only [hr, if_true, sol_eq]
      · simp only [if_neg hr, ex_some]
    rw [hk]
    refine exists_congr fun p => and_congr_right fun _ => exists_congr fun k => and_congr_right fun _ => and_congr_right fun _ => and_congr_right fun _ => and_congr_right fun _ => exists_congr fun y => and_congr_right fun _ => ?_
    cases f with
    | none => simp only [ex_ifo, ex_some]
    | some j =>
      cases y with
      | agg fs =>
        simp only [ex_ifo, ex_some, and_assoc]
        exact ⟨fun ⟨_, e, h⟩ => by cases e; exact h, fun h => ⟨_, rfl, h⟩⟩
      | _ => exact ⟨fun ⟨_, e, h⟩ => (by cases e), fun ⟨_, e, h⟩ => (by cases e)⟩
  | _ => simp only [stv, ex_none]
def srcv (H : Hp) : AV → Option (List AV)
  | .lsl _ m ys => if m ≤ ys.length then some (ys.take m) else none
  | .emp => some []
  | .own d' b s' m => (H d').bind fun k => if k.b = b ∧ k.s = s' ∧ m ≤ k.xs.length then some (k.xs.take m) else none
  | _ => none
def bap (n d s bytes : Nat) (fr kp : Bool) (E : Env) (H : Hp) (x : AV) (ys : List AV) (K : Env → Hp → Nat → Prop) (_ : Tg E := .mk) (_ : Tg H := .mk) (_ : Tg K := .mk) : Prop :=
  match x with
  | .emp => (ys = [] → K (upd E d .emp) H n) ∧ (ys ≠ [] → ys.length * bytes ≤ 140737488355328 ∧ ys.length ≤ 140737488355328 ∧
          ∀ b n', n ≤ b → b < n' → K (upd E d (.own d b s ys.length)) (updH H d (some ⟨b, s, ys, false, !kp, false⟩)) n')
  | .own d' b s' len => ∃ k, H d' = some k ∧ k.b = b ∧ k.s = s ∧ s' = s ∧ k.fz = false ∧ (fr = true → k.ex = true) ∧ len = k.xs.length ∧ (len + ys.length) * bytes ≤ 140737488355328 ∧ len + ys.length ≤ 140737488355328 ∧
          ∀ b' n', n ≤ n' → (b' = b ∨ n ≤ b' ∧ b' < n') → K (upd E d (.own d' b' s (len + ys.length))) (updH H d' (some ⟨b', s, k.xs ++ ys, false, k.row, false⟩)) n'
  | _ => False
theorem src_eq (E : Env) (H : Hp) (y : Opd) (C : List AV → Prop) : srcOf E H y C ↔ ∃ ys, srcv H (ev E y) = some ys ∧ C ys := by
  unfold srcOf
  cases ev E y <;> simp only [srcv, ex_none, ex_some, ex_ifo, ex_bind, and_assoc]
theorem o_app (d s : Nat) (x y : Opd) (bytes : Nat) (fr kp : Bool) : vops L (⟨none, .app d s x y bytes fr kp⟩ :: os) K E H n = bv (ev E y) fun v => bo (srcv H v) fun ys => breq (allsz s ys = true) (bap n d s bytes fr kp E H (ev E x) ys (vops L os K)) := by
  have h := propext (src_eq E H y fun ys => (∀ z ∈ ys, z.sz = s) ∧ bap n d s bytes fr kp E H (ev E x) ys (vops L os K))
  simp only [bv, bo, breq, ← allsz_iff]
  exact h
theorem o_callm (d : Nat) (f : Opd) (xs : List Opd) : vops L (⟨none, .callm d f xs⟩ :: os) K E H n = bo (fnv (ev E f)) fun g =>
    bcallm L g.1 (xs.map (ev E) ++ g.2) H n fun lo hi r H' => vops L os K (upd E d r) H' hi := by
  simp only [vops, vgop, va, bo, bcallm]
  cases ev E f <;> simp only [fnv, ex_none, ex_some] <;> simp
  exact ⟨fun ⟨_, _, ⟨rfl, rfl⟩, h⟩ => h, fun h => ⟨_, _, ⟨rfl, rfl⟩, h⟩⟩
def bres (imp : Bool) (d lo hi : Nat) (E : Env) (H : Hp) (ks : List Nat) (r : AV) (K : Env → Hp → Nat → Prop) (_ : Tg E := .mk) (_ : Tg H := .mk) (_ : Tg K := .mk) : Prop :=
  if r.scal = true then K (upd E d r) H hi else impv imp d lo E (frz H ks) r fun E' H' => K E' H' hi
theorem o_call (d : Nat) (f : Opd) (xs : List Opd) (imp fl : Bool) : vops L (⟨none, .call d f xs imp fl⟩ :: os) K E H n = bo (fnv (ev E f)) fun g => bo (rdAo fl H (xs.map (ev E) ++ g.2)) fun p =>
    bcall L g.1 p.1 n fun lo hi r => bres imp d lo hi E H p.2 r (vops L os K) := by
  simp only [vops, vgop, va, bo, bcall, bres, rdA_eq]
  cases ev E f <;> simp only [fnv, ex_none, ex_some] <;> simp
  exact ⟨fun ⟨_, _, ⟨rfl, rfl⟩, h⟩ => h, fun h => ⟨_, _, ⟨rfl, rfl⟩, h⟩⟩
theorem o_ucall (d : Nat) (f : Opd) (xs : List Opd) : vops L (⟨none, .ucall d f xs⟩ :: os) K E H n = bo (fnv (ev E f)) fun g => bo (rdAo false (fun _ => none) (xs.map (ev E) ++ g.2)) fun p =>
    bcall L g.1 p.1 n fun lo hi r => vops L os K (upd E d r) H hi := by
  simp only [vops, vgop, va, bo, bcall, rdA_eq]
  cases ev E f <;> simp only [fnv, ex_none, ex_some] <;> simp
  exact ⟨fun ⟨_, _, ⟨rfl, rfl⟩, h⟩ => h, fun h => ⟨_, _, ⟨rfl, rfl⟩, h⟩⟩
theorem ballF_mk {H : Hp} {K : Nat → Prop} (h : ∀ b, (∀ q k, H q = some k → k.b ≠ b) → K b) : ballF H K := h
theorem r_bool (imp : Bool) (d lo hi : Nat) (ks : List Nat) (b : Bool) : bres imp d lo hi E H ks (.bool b) K = K (upd E d (.bool b)) H hi := propext Iff.rfl
theorem r_int (imp : Bool) (d lo hi : Nat) (ks : List Nat) (k : IntKind) (i : Int) : bres imp d lo hi E H ks (.int k i) K = K (upd E d (.int k i)) H hi := propext Iff.rfl
theorem r_str (imp : Bool) (d lo hi : Nat) (ks : List Nat) (s : ByteArray) : bres imp d lo hi E H ks (.str s) K = K (upd E d (.str s)) H hi := propext Iff.rfl
theorem r_undef (imp : Bool) (d lo hi : Nat) (ks : List Nat) : bres imp d lo hi E H ks .undef K = K (upd E d .undef) H hi := propext Iff.rfl
theorem r_lsl (d lo hi : Nat) (ks : List Nat) (t : Option (Nat × Nat)) (len : Nat) (xs : List AV) : bres false d lo hi E H ks (.lsl t len xs) K = K (upd E d (.lsl t len xs)) (frz H ks) hi := by
  simp only [bres, AV.scal, impv]
  rfl
theorem r_emp (imp : Bool) (d lo hi : Nat) (ks : List Nat) : bres imp d lo hi E H ks .emp K = K (upd E d .emp) (frz H ks) hi := by
  cases imp <;> rfl
theorem r_agg (imp : Bool) (d lo hi : Nat) (ks : List Nat) (fs : List AV) : bres imp d lo hi E H ks (.agg fs) K = K (upd E d (.agg fs)) (frz H ks) hi := by
  cases imp <;> rfl

/-! ### guards, code, results -/
def skipE (E : Env) : Option Nat → Env
  | some d => upd E d (.tup [])
  | none => E
theorem o_gt (t : Nat) (o : VOp) : vops L (⟨some (t, true), o⟩ :: os) K E H n = bg (E t) true (vops L (⟨none, o⟩ :: os) K E H n) (vops L os K (skipE E o.dst) H n) := by
  simp only [vops, vgop, bg]
  cases o.dst <;> rfl
theorem o_gf (t : Nat) (o : VOp) : vops L (⟨some (t, false), o⟩ :: os) K E H n = bg (E t) false (vops L (⟨none, o⟩ :: os) K E H n) (vops L os K (skipE E o.dst) H n) := by
  simp only [vops, vgop, bg]
  cases o.dst <;> rfl
theorem bg_tt (A B : Prop) : bg (.bool true) true A B .mk .mk = A := by simp [bg]
theorem bg_ff (A B : Prop) : bg (.bool false) false A B .mk .mk = A := by simp [bg]
theorem bg_tf (A B : Prop) : bg (.bool true) false A B .mk .mk = B := by simp [bg]
theorem bg_ft (A B : Prop) : bg (.bool false) true A B .mk .mk = B := by simp [bg]
theorem bg_un (w : Bool) (A B : Prop) : bg (.tup []) w A B .mk .mk = B := by simp [bg]
theorem bg_dt (p : Prop) [h : Decidable p] (A B : Prop) : bg (.bool (decide p)) true A B .mk .mk = vif p A B .mk .mk := by
  by_cases hp : p <;> simp [bg, vif, hp]
theorem bg_df (p : Prop) [h : Decidable p] (A B : Prop) : bg (.bool (decide p)) false A B .mk .mk = vif p B A .mk .mk := by
  by_cases hp : p <;> simp [bg, vif, hp]
theorem bg_nt (b : Bool) (A B : Prop) : bg (.bool (!b)) true A B .mk .mk = bg (.bool b) false A B .mk .mk := by cases b <;> simp [bg]
theorem bg_nf (b : Bool) (A B : Prop) : bg (.bool (!b)) false A B .mk .mk = bg (.bool b) true A B .mk .mk := by cases b <;> simp [bg]
theorem skipE_some (d : Nat) : skipE E (some d) = upd E d (.tup []) := Eq.trans rfl rfl
theorem skipE_none : skipE E none = E := Eq.trans rfl rfl

theorem w_skip : vwp L .skip Q E H n = Q .normal E H n := propext Iff.rfl
theorem w_reg (ops : List GOp) (ord : List Nat) : vwp L (.reg ops ord) Q E H n = vops L ops (Q .normal) E H n := propext Iff.rfl
theorem w_seq (a b : VC) : vwp L (.seq a b) Q E H n = vwp L a (Q.then fun E' H' n' => vwp L b Q E' H' n') E H n := propext Iff.rfl
theorem w_cond (c : Opd) (a b : VC) : vwp L (.cond c a b) Q E H n = bb (ev E c) (vwp L a Q E H n) (vwp L b Q E H n) := propext Iff.rfl
theorem w_block (id : Nat) (c : VC) : vwp L (.block id c) Q E H n = vwp L c (Q.inBlock id) E H n := propext Iff.rfl
theorem w_loop (c : VC) : vwp L (.loop c) Q E H n = bloop L c Q E H n := propext Iff.rfl
theorem w_exit (id : Nat) : vwp L (.exit id) Q E H n = Q (.exit id) E H n := propext Iff.rfl
theorem w_ghost (c : VC) : vwp L (.ghost c) Q E H n = bgh L E H n fun E' H' => vwp L c Q E' H' n := propext Iff.rfl
theorem w_ret : vwp L .ret Q E H n = Q .ret E H n := propext Iff.rfl
theorem t_normal : Q.then K .normal E H n = K E H n := propext Iff.rfl
theorem t_ret : Q.then K .ret E H n = Q .ret E H n := propext Iff.rfl
theorem t_exit (id : Nat) : Q.then K (.exit id) E H n = Q (.exit id) E H n := propext Iff.rfl
theorem b_normal (id : Nat) : Q.inBlock id .normal E H n = Q .normal E H n := propext Iff.rfl
theorem b_ret (id : Nat) : Q.inBlock id .ret E H n = Q .ret E H n := propext Iff.rfl
theorem b_exit (id id' : Nat) : Q.inBlock id (.exit id') E H n = if id' = id then Q .normal E H n else Q (.exit id') E H n := propext Iff.rfl
def getRo (E : Env) (H : Hp) : List RVr → Option (List AV)
  | [] => some []
  | .tmp t :: rs => (getRo E H rs).bind fun vs => some (E t :: vs)
  | .cell t sz :: rs => (ldv H sz (E t)).bind fun v => (getRo E H rs).bind fun vs => some (v :: vs)
theorem getR_eq (rs : List RVr) (C : List AV → Prop) : getR E H rs C ↔ ∃ vs, getRo E H rs = some vs ∧ C vs := by
  induction rs generalizing C with
  | nil => simp only [getR, getRo, ex_some]
  | cons r rs ih =>
    cases r with
    | tmp t => simp only [getR, getRo, ex_bind, ex_some, ih]
    | cell t sz =>
      simp only [getR, getRo, ex_bind, ex_some, ldq_eq, ih, ev_t]
theorem f_ret (rs : List RVr) (lo : Nat) (R : Nat → Nat → AV → Prop) : fnPost rs lo R .ret E H n = bo (getRo E H rs) fun vs => bo (solEo H vs) fun p => R lo n (mkR p.1) := by
  simp only [fnPost, getR_eq, solE_eq, bo]
theorem f_normal (rs : List RVr) (lo : Nat) (R : Nat → Nat → AV → Prop) : fnPost rs lo R .normal E H n = bo (getRo E H rs) fun vs => bo (solEo H vs) fun p => R lo n (mkR p.1) := by
  simp only [fnPost, getR_eq, solE_eq, bo]
def noTup (vs : List AV) : Bool := vs.all fun v => match v with | .tup _ => false | _ => true
theorem noTup_iff (vs : List AV) : (∀ v ∈ vs, ∀ us, v ≠ .tup us) ↔ noTup vs = true := by
  simp only [noTup, List.all_eq_true]
  refine forall_congr' fun v => imp_congr_right fun _ => ?_
  cases v <;> simp
theorem fm_ret (rs : List RVr) (lo : Nat) (R : Nat → Nat → AV → Hp → Prop) : fnPostM rs lo R .ret E H n = bo (getRo E H rs) fun vs => breq (noTup vs = true) (R lo n (mkR vs) H) := by
  simp only [fnPostM, getR_eq, bo, breq, noTup_iff]
theorem fm_normal (rs : List RVr) (lo : Nat) (R : Nat → Nat → AV → Hp → Prop) : fnPostM rs lo R .normal E H n = bo (getRo E H rs) fun vs => breq (noTup vs = true) (R lo n (mkR vs) H) := by
  simp only [fnPostM, getR_eq, bo, breq, noTup_iff]
theorem mkR_one (v : AV) : mkR [v] = v := Eq.trans rfl rfl

/-- A loop: what holds at its head, counted down; X: what holds where it is left. -/
theorem loop_rule {c : VC} (I : Nat → Env → Hp → Nat → Prop) (X : Post) (m : Nat) (h : I m E H n) (hX : ∀ e E H n, X e E H n → Q e E H n)
    (hs : ∀ m E H n (Q' : Post) (K : Env → Hp → Nat → Prop), I m E H n → (∀ e E H n, X e E H n → Q' e E H n) → (∀ m' E' H' n', m = m' + 1 → I m' E' H' n' → K E' H' n') → vwp L c (Q'.then K) E H n) : bloop L c Q E H n := by
  refine ⟨m + 1, ?_⟩
  induction m generalizing E H n with
  | zero => exact hs 0 E H n Q _ h hX fun m' _ _ _ e => by cases e
  | succ m ih => exact hs (m + 1) E H n Q _ h hX fun m' E' H' n' e hI => ih (by cases e; exact hI)
theorem callm_rule (G : Nat → Bool) {g : FuncId} {args : List AV} {C : Nat → Nat → AV → Hp → Prop} {R : Nat → Nat → AV → Hp → Prop} (h : L.m g args (givenH G H) R) (hf : ∀ d k, G d = true → H d = some k → k.fz = false)
    (hk : ∀ lo hi r H', n ≤ lo → lo ≤ hi → R lo hi r H' → (∀ d k, H' d = some k → G d = true) ∧ C lo hi r (backH G H H')) : bcallm L g args H n C := ⟨G, R, h, hf, hk⟩
theorem ghost_rule {C : Env → Hp → Prop} (E' : Env) (H' : Hp) (h : L.g E H n E' H') (hk : C E' H') : bgh L E H n C := ⟨E', H', h, hk⟩
theorem call_rule {l : FuncId → Law} {m : FuncId → LawM} {gh : Env → Hp → Nat → Env → Hp → Prop} {g : FuncId} {args : List AV} {C : Nat → Nat → AV → Prop} {R : Nat → Nat → AV → Prop} (h : l g args R) (hk : ∀ lo hi r, n ≤ lo → lo ≤ hi → R lo hi r → C lo hi r) : bcall ⟨l, m, gh⟩ g args n C := ⟨R, h, hk⟩
end Go.AVM

/- The values that the abstract machine's operations give, at integers of 64 bits, strings and lists of plain elements. -/
namespace Go.AVM
set_option linter.unusedSimpArgs false
set_option linter.unusedVariables false

abbrev i64 (n : Int) : AV := .int .i64 n
def fits (n : Int) : Prop := -9223372036854775808 ≤ n ∧ n ≤ 9223372036854775807
theorem wrap64 (n : Int) (h : -9223372036854775808 ≤ n ∧ n ≤ 9223372036854775807) : IntKind.wrap .i64 n = n := by
  simp only [IntKind.wrap, IntKind.signed, IntKind.bits]
  simp
  omega
/-- a list of strings, of plain values -/
def strs (xs : List ByteArray) : AV := .lsl none xs.length (xs.map .str)
theorem data_inj {a b : ByteArray} : (a.toList == b.toList) = decide (a = b) := by
  rw [Go.ByteArray.toList_eq, Go.ByteArray.toList_eq]
  by_cases h : a = b
  · simp [h]
  · rw [decide_eq_false h, beq_eq_false_iff_ne]
    intro e
    exact h (by cases a; cases b; simpa using e)

theorem v_add (a b : Int) : binv .add (.int .i64 a) (.int .i64 b) = some (.int .i64 (IntKind.wrap .i64 (a + b))) := by simp [binv]
theorem v_sub (a b : Int) : binv .sub (.int .i64 a) (.int .i64 b) = some (.int .i64 (IntKind.wrap .i64 (a - b))) := by simp [binv]
theorem v_mul (a b : Int) : binv .mul (.int .i64 a) (.int .i64 b) = some (.int .i64 (IntKind.wrap .i64 (a * b))) := by simp [binv]
theorem v_rem (k : IntKind) (a b : Int) (h : b ≠ 0) : binv .rem (.int k a) (.int k b) = some (.int k (a.tmod b)) := by simp [binv, h]
theorem v_quo (a b : Int) (h : b ≠ 0) : binv .quo (.int .i64 a) (.int .i64 b) = some (.int .i64 (IntKind.wrap .i64 (a.tdiv b))) := by simp [binv, h]
theorem v_eql (k : IntKind) (a b : Int) : binv .eql (.int k a) (.int k b) = some (.bool (decide (a = b))) := by simp [binv, BEq.beq]
theorem v_neq (k : IntKind) (a b : Int) : binv .neq (.int k a) (.int k b) = some (.bool (!decide (a = b))) := by simp [binv, bne, BEq.beq]
theorem v_lss (k : IntKind) (a b : Int) : binv .lss (.int k a) (.int k b) = some (.bool (decide (a < b))) := by simp [binv]
theorem v_leq (k : IntKind) (a b : Int) : binv .leq (.int k a) (.int k b) = some (.bool (decide (a ≤ b))) := by simp [binv]
theorem v_gtr (k : IntKind) (a b : Int) : binv .gtr (.int k a) (.int k b) = some (.bool (decide (b < a))) := by simp [binv]
theorem v_geq (k : IntKind) (a b : Int) : binv .geq (.int k a) (.int k b) = some (.bool (decide (b ≤ a))) := by simp [binv]
theorem v_seql (a b : ByteArray) : binv .eql (.str a) (.str b) = some (.bool (decide (a = b))) := by simp [binv, data_inj]
theorem v_sneq (a b : ByteArray) : binv .neq (.str a) (.str b) = some (.bool (!decide (a = b))) := by simp [binv, data_inj]
theorem e_beq (a b : Bool) : beqv false (.bool a) (.bool b) = some (.bool (a == b)) := Eq.trans rfl rfl
theorem e_bne (a b : Bool) : beqv true (.bool a) (.bool b) = some (.bool (!(a == b))) := Eq.trans rfl rfl
theorem l_str (s : ByteArray) : lenv true (.str s) = some s.size := Eq.trans rfl rfl
theorem l_lsl (t : Option (Nat × Nat)) (len : Nat) (xs : List AV) : lenv false (.lsl t len xs) = some len := Eq.trans rfl rfl
theorem l_own (d b s len : Nat) : lenv false (.own d b s len) = some len := Eq.trans rfl rfl
theorem l_emp : lenv false .emp = some 0 := Eq.trans rfl rfl
theorem l_strs (xs : List ByteArray) : lenv false (strs xs) = some xs.length := Eq.trans rfl rfl
theorem n_bool (b : Bool) : notv (.bool b) = some (.bool (!b)) := Eq.trans rfl rfl
theorem p_true (x y : AV) : pickv (.bool true) x y = some x := Eq.trans rfl rfl
theorem p_false (x y : AV) : pickv (.bool false) x y = some y := Eq.trans rfl rfl
theorem x_strs (xs : List ByteArray) (i : Nat) (h : i < xs.length) : idxAv 1 (strs xs) (.int .i64 i) = some (.lptr (.str xs[i])) := by
  simp [idxAv, strs, h, AV.sz]
theorem d_str (H : Hp) (s : ByteArray) : ldv H none (.lptr (.str s)) = some (.str s) := Eq.trans rfl rfl
theorem x_str (s : ByteArray) (i : Nat) (h : i < s.size) : idxv (.str s) (.int .i64 i) = some (.int .u8 (s[i]).toNat) := by
  have h' : i < s.data.size := h
  simp only [idxv, Int.toNat_natCast, Int.natCast_nonneg, if_true, Array.getElem?_eq_getElem h']
  rfl

theorem x_own (d b s len i : Nat) (h : i < len) : idxAv s (.own d b s len) (.int .i64 i) = some (.optr d b s i none) := by
  simp [idxAv, h]
theorem st_map {α : Type} (e : α → AV) {H : Hp} {d b s i : Nat} {ys : List α} {row ex : Bool} {x : α} {sz : Option Nat} (hH : H d = some ⟨b, s, ys.map e, false, row, ex⟩) (hi : i < ys.length)
    (h1 : fitsz sz (e x) = true) (h2 : sz = none → (e x).sz = 1) (h3 : (e x).sz = s) (h4 : solo H (e x) = some (e x, H)) :
    stv H sz (e x) (.optr d b s i none) = some (updH H d (some ⟨b, s, (ys.set i x).map e, false, row, ex⟩)) := by
  have h5 : (ys.map e)[i]? = some (e ys[i]) := by simp [hi]
  have h6 : (ys.map e).set i (e x) = (ys.set i x).map e := by simp
  simp only [stv]
  rw [if_pos ⟨by simp, h1, h2⟩, hH]
  cases row <;> simp only [Option.bind_some, reduceIte, h4, hH, h5, h3, h6, Bool.false_eq_true, if_false, if_true, and_self]
theorem st_str {H : Hp} {d b i : Nat} {ys : List ByteArray} {row ex : Bool} {x : ByteArray} (hH : H d = some ⟨b, 1, ys.map .str, false, row, ex⟩) (hi : i < ys.length) :
    stv H none (.str x) (.optr d b 1 i none) = some (updH H d (some ⟨b, 1, (ys.set i x).map .str, false, row, ex⟩)) :=
  st_map .str hH hi rfl (fun _ => rfl) rfl rfl
theorem set_take {α : Type} {xs : List α} {i m : Nat} {z : α} (hi : i < xs.length) : (xs.take i ++ List.replicate (m + 1) z).set i xs[i] = xs.take (i + 1) ++ List.replicate m z := by
  have hl : (xs.take i).length = i := by simp; omega
  rw [List.set_append_right _ _ (by omega), hl, Nat.sub_self, List.replicate_succ, List.set_cons_zero, List.take_succ_eq_append_getElem hi, List.append_assoc]
  rfl
theorem set_rep {α : Type} {xs : List α} {k m : Nat} {z y : α} : (xs ++ List.replicate k y ++ List.replicate (m + 1) z).set (xs.length + k) y = xs ++ List.replicate (k + 1) y ++ List.replicate m z := by
  rw [List.set_append_right _ _ (by simp), List.length_append, List.length_replicate, Nat.sub_self, List.replicate_succ, List.set_cons_zero, List.replicate_succ', List.append_assoc, List.append_assoc, List.append_assoc]
  rfl
theorem rd_strs (fl : Bool) (H : Hp) (xs : List ByteArray) : rd3o fl H (strs xs) = some (strs xs, []) := by
  have h : (xs.map AV.str).take xs.length = xs.map .str := List.take_of_length_le (by simp)
  cases fl <;> simp [strs, rd3o, rd2o, rdpo, rd1o, h]
theorem so_strs (H : Hp) (xs : List ByteArray) : solo H (strs xs) = some (strs xs, H) := rfl
theorem src_strs (H : Hp) (xs : List ByteArray) : srcv H (strs xs) = some (xs.map .str) := by simp [srcv, strs, List.take_of_length_le]
theorem d_strs (H : Hp) (xs : List ByteArray) : ldv H none (.lptr (strs xs)) = some (strs xs) := Eq.trans rfl rfl
theorem d_int (H : Hp) (k : IntKind) (n : Int) : ldv H none (.lptr (.int k n)) = some (.int k n) := Eq.trans rfl rfl
theorem d_bool (H : Hp) (b : Bool) : ldv H none (.lptr (.bool b)) = some (.bool b) := Eq.trans rfl rfl
theorem sz_bool (b : Bool) : (AV.bool b).sz = 1 := Eq.trans rfl rfl
theorem sz_int (k : IntKind) (n : Int) : (AV.int k n).sz = 1 := Eq.trans rfl rfl
theorem sz_str (s : ByteArray) : (AV.str s).sz = 1 := Eq.trans rfl rfl
theorem sz_emp : AV.emp.sz = 1 := Eq.trans rfl rfl
theorem sz_lsl (t : Option (Nat × Nat)) (n : Nat) (xs : List AV) : (AV.lsl t n xs).sz = 1 := Eq.trans rfl rfl
theorem sz_own (d b s n : Nat) : (AV.own d b s n).sz = 1 := Eq.trans rfl rfl
theorem sz_optr (d b s i : Nat) (f : Option Nat) : (AV.optr d b s i f).sz = 1 := Eq.trans rfl rfl
theorem sz_fn (f : FuncId) (c : List AV) : (AV.fn f c).sz = 1 := Eq.trans rfl rfl
theorem sz_agg (fs : List AV) : (AV.agg fs).sz = fs.length := Eq.trans rfl rfl
theorem sz_strs (xs : List ByteArray) : (strs xs).sz = 1 := Eq.trans rfl rfl
theorem ia_bool (b : Bool) : (AV.bool b).isAgg = false := Eq.trans rfl rfl
theorem ia_int (k : IntKind) (n : Int) : (AV.int k n).isAgg = false := Eq.trans rfl rfl
theorem ia_str (s : ByteArray) : (AV.str s).isAgg = false := Eq.trans rfl rfl
theorem ia_emp : AV.emp.isAgg = false := Eq.trans rfl rfl
theorem ia_lsl (t : Option (Nat × Nat)) (n : Nat) (xs : List AV) : (AV.lsl t n xs).isAgg = false := Eq.trans rfl rfl
theorem ia_own (d b s n : Nat) : (AV.own d b s n).isAgg = false := Eq.trans rfl rfl
theorem ia_optr (d b s i : Nat) (f : Option Nat) : (AV.optr d b s i f).isAgg = false := Eq.trans rfl rfl
theorem ia_fn (f : FuncId) (c : List AV) : (AV.fn f c).isAgg = false := Eq.trans rfl rfl
theorem ia_agg (fs : List AV) : (AV.agg fs).isAgg = true := Eq.trans rfl rfl
theorem ia_strs (xs : List ByteArray) : (strs xs).isAgg = false := Eq.trans rfl rfl
theorem fz_none (v : AV) : fitsz none v = !v.isAgg := by cases v <;> rfl
theorem fz_some (m : Nat) (fs : List AV) : fitsz (some m) (.agg fs) = (fs.length == m) := Eq.trans rfl rfl
theorem m_beq (b : Bool) : (b == b) = true := beq_self_eq_true b
theorem m_bind {α β : Type} (a : α) (f : α → Option β) : (some a).bind f = f a := Option.bind_some a f
theorem m_maps {α β : Type} (a : α) (f : α → β) : (some a).map f = some (f a) := Option.map_some a f
theorem m_mapn {α β : Type} (f : α → β) : (none : Option α).map f = none := Option.map_none f
theorem m_get0 {α : Type} (a : α) (l : List α) (d : α) : (a :: l).getD 0 d = a := List.getD_cons_zero
theorem m_getS {α : Type} (a : α) (l : List α) (d : α) (n : Nat) : (a :: l).getD (n + 1) d = l.getD n d := List.getD_cons_succ
theorem m_mapc {α β : Type} (f : α → β) (a : α) (l : List α) : (a :: l).map f = f a :: l.map f := List.map_cons
theorem m_map0 {α β : Type} (f : α → β) : ([] : List α).map f = [] := List.map_nil
theorem m_appn {α : Type} (l : List α) : l ++ [] = l := List.append_nil l
theorem m_napp {α : Type} (l : List α) : [] ++ l = l := List.nil_append l
theorem m_capp {α : Type} (a : α) (l r : List α) : a :: l ++ r = a :: (l ++ r) := List.cons_append
set_option linter.defProp false
/-- the machine's steps, for simp -/
def SD :=
  And.intro @w_seq <|
  And.intro @w_reg <|
  And.intro @w_block <|
  And.intro @w_loop <|
  And.intro @w_cond <|
  And.intro @w_exit <|
  And.intro @w_ret <|
  And.intro @w_skip <|
  And.intro @t_normal <|
  And.intro @t_ret <|
  And.intro @t_exit <|
  And.intro @b_normal <|
  And.intro @b_ret <|
  And.intro @b_exit <|
  And.intro @vops_nil <|
  And.intro @o_mv <|
  And.intro @o_bin <|
  And.intro @o_not <|
  And.intro @o_beq <|
  And.intro @o_pick <|
  And.intro @o_len <|
  And.intro @o_idx <|
  And.intro @o_idxA <|
  And.intro @o_fldA <|
  And.intro @o_ld <|
  And.intro @o_slc <|
  And.intro @o_slc0 <|
  And.intro @o_ext <|
  And.intro @o_fld <|
  And.intro @o_bld <|
  And.intro @o_mkf <|
  And.intro @o_conv <|
  And.intro @o_mx <|
  And.intro @o_nil <|
  And.intro @o_alc <|
  And.intro @o_box <|
  And.intro @o_mks <|
  And.intro @o_bls <|
  And.intro @o_st <|
  And.intro @o_app <|
  And.intro @o_call <|
  And.intro @o_gt <|
  And.intro @o_gf <|
  And.intro @f_ret <|
  And.intro @f_normal <|
  And.intro @upd_at <|
  And.intro @updH_at <|
  And.intro @o_neg <|
  And.intro @o_isnil <|
  And.intro @o_uend <|
  And.intro @o_uem <|
  And.intro @o_ucl <|
  And.intro @o_ualcT <|
  And.intro @o_ualcF <|
  And.intro @o_ubld <|
  And.intro @o_ucall <|
  And.intro @o_b2s <|
  And.intro @o_blk <|
  And.intro @o_callm <|
  And.intro @w_ghost <|
  And.intro @fm_ret <|
  And.intro @fm_normal <| @src_strs
def SP :=
  And.intro @sz_bool <|
  And.intro @sz_int <|
  And.intro @sz_str <|
  And.intro @sz_emp <|
  And.intro @sz_lsl <|
  And.intro @sz_own <|
  And.intro @sz_optr <|
  And.intro @sz_fn <|
  And.intro @sz_agg <|
  And.intro @sz_strs <|
  And.intro @ia_bool <|
  And.intro @ia_int <|
  And.intro @ia_str <|
  And.intro @ia_emp <|
  And.intro @ia_lsl <|
  And.intro @ia_own <|
  And.intro @ia_optr <|
  And.intro @ia_fn <|
  And.intro @ia_agg <|
  And.intro @ia_strs <|
  And.intro @fz_none <|
  And.intro @fz_some <|
  And.intro @decide_true <|
  And.intro @decide_false <|
  And.intro @Bool.not_true <|
  And.intro @Bool.not_false <|
  And.intro @e_beq <|
  And.intro @e_bne <|
  And.intro @m_beq <|
  And.intro @ev_t <|
  And.intro @ev_c <|
  And.intro @bv_eq <|
  And.intro @bo_some <|
  And.intro @bo_none <|
  And.intro @vif_true <|
  And.intro @vif_false <|
  And.intro @vif_not <|
  And.intro @bb_true <|
  And.intro @bb_false <|
  And.intro @bb_dec <|
  And.intro @bb_not <|
  And.intro @bg_tt <|
  And.intro @bg_ff <|
  And.intro @bg_tf <|
  And.intro @bg_ft <|
  And.intro @bg_un <|
  And.intro @bg_dt <|
  And.intro @bg_df <|
  And.intro @bg_nt <|
  And.intro @bg_nf <|
  And.intro @breq_true <|
  And.intro @r_bool <|
  And.intro @r_int <|
  And.intro @r_str <|
  And.intro @r_undef <|
  And.intro @r_lsl <|
  And.intro @r_emp <|
  And.intro @r_agg <|
  And.intro @skipE_some <|
  And.intro @skipE_none <|
  And.intro @mkR_one <|
  And.intro @m_bind <|
  And.intro @m_maps <|
  And.intro @m_mapn <|
  And.intro @m_get0 <|
  And.intro @m_getS <|
  And.intro @v_add <|
  And.intro @v_sub <|
  And.intro @v_mul <|
  And.intro @v_eql <|
  And.intro @v_neq <|
  And.intro @v_lss <|
  And.intro @v_leq <|
  And.intro @v_gtr <|
  And.intro @v_geq <|
  And.intro @v_seql <|
  And.intro @v_sneq <|
  And.intro @l_str <|
  And.intro @l_lsl <|
  And.intro @l_own <|
  And.intro @l_emp <|
  And.intro @n_bool <|
  And.intro @p_true <|
  And.intro @p_false <|
  And.intro @d_str <|
  And.intro @d_int <|
  And.intro @d_bool <|
  And.intro @d_strs <|
  And.intro @m_mapc <|
  And.intro @m_map0 <|
  And.intro @m_appn <|
  And.intro @m_napp <| @m_capp

end Go.AVM

/- Steps of the proof alone: a firm list taken over to be written; own rows made firm; forgetting. -/
namespace Go.AVM
set_option linter.unusedSimpArgs false
set_option linter.unusedVariables false

/-- no block of B is in it -/
inductive Av (B : Nat → Prop) : AV → Prop
  | undef : Av B .undef
  | bool (b : Bool) : Av B (.bool b)
  | int (k : IntKind) (n : Int) : Av B (.int k n)
  | str (s : ByteArray) : Av B (.str s)
  | emp : Av B .emp
  | own (d b s len : Nat) : Av B (.own d b s len)
  | optr (d b s i : Nat) (f : Option Nat) : Av B (.optr d b s i f)
  | lsl0 (len : Nat) : Av B (.lsl none len [])
  | lsl (b s len : Nat) (xs : List AV) (hb : ¬ B b) (h : ∀ x ∈ xs, Av B x) : Av B (.lsl (some (b, s)) len xs)
  | agg (fs : List AV) (h : ∀ x ∈ fs, Av B x) : Av B (.agg fs)
  | tup (fs : List AV) (h : ∀ x ∈ fs, Av B x) : Av B (.tup fs)
  | fn (f : FuncId) (fs : List AV) (h : ∀ x ∈ fs, Av B x) : Av B (.fn f fs)
  | old (N : Nat) (x : AV) (h : ∀ b, B b → N ≤ b) : Av B (.old N x)

section
variable {w : World} {T B : Nat → Prop}
theorem Av.rc {x : AV} {cs : List Value} (h : RC w T x cs) : Av B x → RC w (fun g => T g ∧ ¬ B g) x cs := by
  induction h with
  | undef cs h => exact fun _ => .undef cs h
  | bool b => exact fun _ => .bool b
  | int k n => exact fun _ => .int k n
  | str s => exact fun _ => .str s
  | agg fs cs hl hn h ih =>
    intro ha
    cases ha with
    | agg _ ha => exact .agg fs cs hl hn fun i f c hf hc => ih i f c hf hc (ha f (List.mem_of_getElem? hf))
  | emp a => exact fun _ => .emp a
  | lsl t len cap s xs a cells h1 h2 h3 hm hne ht h ih =>
    intro ha
    cases ha with
    | lsl0 => exact .lsl none len cap s [] a cells h1 h2 h3 hm (by simp) (by simp) (by simp)
    | lsl b s' _ _ hb ha =>
      refine .lsl _ len cap s xs a cells h1 h2 h3 hm (fun hx => ?_) (fun b' s2 hbs => ?_) fun i x hi => ih i x hi (ha x (List.mem_of_getElem? hi))
      · obtain ⟨g, off, hga, hT, hc⟩ := hne hx
        refine ⟨g, off, hga, ⟨hT, ?_⟩, hc⟩
        obtain ⟨_, _, ha', _⟩ := ht b s' rfl
        rw [hga] at ha'
        have : g = b := by simpa using congrArg (Option.map Addr.block) ha'
        rw [this]
        exact hb
      · obtain ⟨g1, g2, g3⟩ := ht b' s2 hbs
        obtain ⟨rfl, rfl⟩ : b = b' ∧ s' = s2 := by simpa using hbs
        exact ⟨g1, ⟨g2, hb⟩, g3⟩
  | own d b s len cap hl hm h => exact fun _ => .own d b s len cap hl hm h
  | lptr x cs g off hT hs hc h ih => intro ha; cases ha
  | optr d b s i f => exact fun _ => .optr d b s i f
  | fn f cap cs hl hn h ih =>
    intro ha
    cases ha with
    | fn _ _ ha => exact .fn f cap cs hl hn fun i x c hx hc => ih i x c hx hc (ha x (List.mem_of_getElem? hx))

theorem Av.rv0 {x : AV} {v : Value} (h : RV0 w T x v) (ha : Av B x) : RV0 w (fun g => T g ∧ ¬ B g) x v := by
  cases x <;> first | exact ha.rc h | exact h | skip
  · obtain ⟨cs, e, h⟩ := h
    exact ⟨cs, e, ha.rc h⟩
  · rename_i N x
    cases ha with
    | old _ _ ha => exact RVp.mono (on_same fun g hg => ⟨⟨hg.1, fun hb => absurd (ha g hb) (by have := hg.2; omega)⟩, hg.2⟩) h
theorem Av.rv {x : AV} {v : Value} (h : RV w T x v) (ha : Av B x) : RV w (fun g => T g ∧ ¬ B g) x v := by
  by_cases hx : ∀ vs, x ≠ .tup vs
  · exact RV.of0 (Av.rv0 (RV.to0 h hx) ha)
  obtain ⟨vs, rfl⟩ : ∃ vs, x = .tup vs := by
    cases x <;> first | exact ⟨_, rfl⟩ | exact absurd (by simp) hx
  obtain ⟨cs, e, hs, h⟩ := h
  cases ha with
  | tup _ ha => exact ⟨cs, e, hs, fun i x hi => let ⟨u, hu, hr⟩ := h i x hi; ⟨u, hu, (ha x (List.mem_of_getElem? hi)).rv0 hr⟩⟩

/-- lists taken over: what they become, and the rows that come with them -/
inductive Tw (B : Nat → Prop) : List AV → List AV → List (Nat × Blk) → Prop
  | nil : Tw B [] [] []
  | same (x : AV) (xs ys : List AV) (l : List (Nat × Blk)) (hx : Av B x) (h : Tw B xs ys l) : Tw B (x :: xs) (x :: ys) l
  | lsl (d b s len : Nat) (xs0 ys0 xs ys : List AV) (l0 l : List (Nat × Blk)) (hs : 0 < s) (h0 : Tw B xs0 ys0 l0) (h : Tw B xs ys l) :
      Tw B (.lsl (some (b, s)) len xs0 :: xs) (.own d b s len :: ys) ((d, ⟨b, s, ys0, false, false, false⟩) :: (l0 ++ l))
  | agg (fs gs xs ys : List AV) (l0 l : List (Nat × Blk)) (h0 : Tw B fs gs l0) (h : Tw B xs ys l) : Tw B (.agg fs :: xs) (.agg gs :: ys) (l0 ++ l)

theorem Tw.len {xs ys : List AV} {l : List (Nat × Blk)} (h : Tw B xs ys l) : xs.length = ys.length := by
  induction h with
  | nil => rfl
  | same _ _ _ _ _ _ ih => simp [ih]
  | lsl _ _ _ _ _ _ _ _ _ _ _ _ _ _ ih => simp [ih]
  | agg _ _ _ _ _ _ _ _ _ ih => simp [ih]
theorem Tw.kind {xs ys : List AV} {l : List (Nat × Blk)} (h : Tw B xs ys l) : ∀ (i : Nat) (x y : AV), xs[i]? = some x → ys[i]? = some y → y.isAgg = x.isAgg ∧ y.sz = x.sz := by
  induction h with
  | nil => intro i x y hx; simp at hx
  | same z _ _ _ _ _ ih =>
    intro i x y hx hy
    cases i with
    | zero => simp at hx hy; subst hx hy; exact ⟨rfl, rfl⟩
    | succ i => exact ih i x y (by simpa using hx) (by simpa using hy)
  | lsl _ _ _ _ _ _ _ _ _ _ _ _ _ _ ih =>
    intro i x y hx hy
    cases i with
    | zero => simp at hx hy; subst hx hy; exact ⟨rfl, rfl⟩
    | succ i => exact ih i x y (by simpa using hx) (by simpa using hy)
  | agg _ _ _ _ _ _ h0 _ _ ih =>
    intro i x y hx hy
    cases i with
    | zero => simp at hx hy; subst hx hy; exact ⟨rfl, h0.len.symm⟩
    | succ i => exact ih i x y (by simpa using hx) (by simpa using hy)

theorem Tw.ok {M : Nat → Prop} {xs ys : List AV} {l : List (Nat × Blk)} (h : Tw B xs ys l) : ∀ (css : List (List Value)), css.length = xs.length → (∀ p ∈ l, M p.2.b) →
    (∀ (i : Nat) (x : AV) (cs : List Value), xs[i]? = some x → css[i]? = some cs → RC w T x cs) →
    (∀ (i : Nat) (y : AV) (cs : List Value), ys[i]? = some y → css[i]? = some cs → RC w (fun g => T g ∧ ¬ B g) y cs) ∧ ∀ p ∈ l, BOK w (fun g => T g ∧ ¬ B g) M p.2 ∧ T p.2.b := by
  induction h with
  | nil => intro css _ _ _; exact ⟨fun i y cs hy => by simp at hy, by simp⟩
  | same z xs ys l hz h ih =>
    intro css hl hM hr
    cases css with
    | nil => simp at hl
    | cons c css =>
      obtain ⟨g1, g2⟩ := ih css (by simpa using hl) hM fun i x cs hx hc => hr (i + 1) x cs (by simpa using hx) (by simpa using hc)
      refine ⟨fun i y cs hy hc => ?_, g2⟩
      cases i with
      | zero =>
        obtain rfl : z = y := by simpa using hy
        exact hz.rc (hr 0 z cs rfl hc)
      | succ i => exact g1 i y cs (by simpa using hy) (by simpa using hc)
  | lsl d b s len xs0 ys0 xs ys l0 l hs h0 h ih0 ih =>
    intro css hl hM hr
    cases css with
    | nil => simp at hl
    | cons c css =>
      obtain ⟨g1, g2⟩ := ih css (by simpa using hl) (fun p hp => hM p (by simp [hp])) fun i x cs hx hc => hr (i + 1) x cs (by simpa using hx) (by simpa using hc)
      have hc := hr 0 _ c rfl rfl
      cases hc with
      | lsl _ _ cap s1 _ ad cells h1 h2 h3 hm hne ht hrc =>
      obtain ⟨hs1, hTb, had, ca, e, hh, hcs⟩ := ht b s rfl
      subst hs1
      have hl0 := h0.len
      obtain ⟨q1, q2⟩ := ih0 ((List.range xs0.length).map cells) (by simp) (fun p hp => hM p (by simp [hp])) fun i x cs hx hc' => by
        have hlt := (List.getElem?_eq_some_iff.1 hx).1
        simp [hlt] at hc'
        subst hc'
        exact hrc i x hx
      refine ⟨fun i y cs hy hc' => ?_, fun p hp => ?_⟩
      · cases i with
        | zero =>
          obtain rfl : AV.own d b s len = y := by simpa using hy
          obtain rfl : [Value.slice ad len cap] = cs := by simpa using hc'
          rw [had]
          exact .own d b s len cap h1 hm ⟨ca, e, hh, hcs⟩
        | succ i => exact g1 i y cs (by simpa using hy) (by simpa using hc')
      · rcases List.mem_cons.1 hp with rfl | hp
        · refine ⟨⟨hM _ List.mem_cons_self, hs, ca, e, hh, ?_, by simp, fun i x hi => ?_⟩, hTb⟩
          · rw [hcs, ← hl0]
            exact Nat.mul_le_mul_right _ h3
          · have hlt : i < xs0.length := by rw [hl0]; exact (List.getElem?_eq_some_iff.1 hi).1
            have hx0 := List.getElem?_eq_getElem hlt
            obtain ⟨g, off, hga, _, hcell⟩ := hne (by rintro rfl; simp at hlt)
            rw [had] at hga
            obtain ⟨rfl, rfl⟩ : b = g ∧ 0 = off := by simpa using hga
            obtain ⟨q3, q4⟩ := hcell i _ hx0
            refine ⟨cells i, q3, q1 i x (cells i) hi (by simp [hlt]), fun j v hj => ?_⟩
            have := q4 j v hj
            simpa [World.cell?, hh] using this
        · rcases List.mem_append.1 hp with hp | hp
          · exact q2 p hp
          · exact g2 p hp
  | agg fs gs xs ys l0 l h0 h ih0 ih =>
    intro css hl hM hr
    cases css with
    | nil => simp at hl
    | cons c css =>
      obtain ⟨g1, g2⟩ := ih css (by simpa using hl) (fun p hp => hM p (by simp [hp])) fun i x cs hx hc => hr (i + 1) x cs (by simpa using hx) (by simpa using hc)
      have hc := hr 0 _ c rfl rfl
      cases hc with
      | agg _ _ hl0 hn hrc =>
      obtain ⟨q1, q2⟩ := ih0 (c.map fun u => [u]) (by simp [hl0]) (fun p hp => hM p (by simp [hp])) fun i x cs hx hc' => by
        rw [List.getElem?_map] at hc'
        obtain ⟨u, hu, rfl⟩ := Option.map_eq_some_iff.1 hc'
        exact hrc i x u hx hu
      refine ⟨fun i y cs hy hc' => ?_, fun p hp => ?_⟩
      · cases i with
        | zero =>
          obtain rfl : AV.agg gs = y := by simpa using hy
          obtain rfl : c = cs := by simpa using hc'
          refine .agg gs c (by rw [← h0.len, hl0]) (fun g hg => ?_) fun i f u hf hu => q1 i f [u] hf (by simp [hu])
          obtain ⟨i, hi⟩ := List.mem_iff_getElem?.1 hg
          have hlt : i < fs.length := by rw [h0.len]; exact (List.getElem?_eq_some_iff.1 hi).1
          rw [(h0.kind i _ g (List.getElem?_eq_getElem hlt) hi).1]
          exact hn _ (List.getElem_mem hlt)
        | succ i => exact g1 i y cs (by simpa using hy) (by simpa using hc')
      · rcases List.mem_append.1 hp with hp | hp
        · exact q2 p hp
        · exact g2 p hp
end

theorem rv_of_cells {w : World} {T T' : Nat → Prop} {x y : AV} {v : Value} (hx : RV w T x v) (hz : x.sz ≠ 0) (hk : y.isAgg = x.isAgg ∧ y.sz = x.sz) (h : RC w T' y v.cells.toList) : RV w T' y v := by
  cases ha : x.isAgg with
  | true =>
    cases x <;> simp [AV.isAgg] at ha
    obtain ⟨cs, rfl, hc⟩ := hx
    rw [show AV.isAgg (AV.agg _) = true from rfl] at hk
    cases y <;> simp [AV.isAgg] at hk
    exact ⟨cs, rfl, by simpa [Value.cells] using h⟩
  | false =>
    have hc := hx.cell ha hz
    have hl := hc.len hz
    obtain ⟨u, hu, h1, h2⟩ := hc.len1 (by simpa using hl.symm)
    obtain rfl : v = u := by simpa using hu
    have he : v.cells = #[v] := by cases v <;> simp_all [Value.cells]
    rw [he] at h
    exact RC.rv h (hk.1.trans ha)

theorem gh_refl {lo nt : Nat} {E : Env} {H : Hp} {n : Nat} : GH lo nt E H n E H := fun _ _ _ _ _ h => h

/-- Firm lists, made by calls, are taken over to be written. -/
theorem thaw {lo nt n : Nat} {E : Env} {H : Hp} (B : Nat → Prop) (xs ys : List AV) (L : List (Nat × Blk)) (ts : List Nat) (hTw : Tw B xs ys L) (hts : ts.length = xs.length) (hE : ∀ (i t : Nat) (x : AV), ts[i]? = some t → xs[i]? = some x → t < nt ∧ E t = x ∧ x.sz ≠ 0)
    (hB : ∀ p ∈ L, B p.2.b ∧ lo ≤ p.2.b) (hinj : ∀ p ∈ L, ∀ q ∈ L, p.2.b = q.2.b → p.1 = q.1) {E' : Env} {H' : Hp}
    (hH : ∀ d k, H d = some k → (k.fz = true → ¬ B k.b) ∧ ∀ x ∈ k.xs, Av B x)
    (hE' : ∀ t, t < nt → E' t = .undef ∨ (E' t = E t ∧ Av B (E t)) ∨ ∃ i : Nat, ts[i]? = some t ∧ ys[i]? = some (E' t))
    (hH' : ∀ d k, H' d = some k → (d, k) ∈ L ∨ H d = some k) : GH lo nt E H n E' H' := by
  intro w0 S a w hlo h
  subst hlo
  have hM : ∀ p ∈ L, Mine w0 S p.2.b := fun p hp => .inr (hB p hp).2
  obtain ⟨g1, g2⟩ := hTw.ok (w := w) (T := Stb w0 S H w) (M := Mine w0 S) (ts.map fun t => (a.tmps.getD t undef).cells.toList) (by simp [hts]) hM (fun i x cs hx hc => by
    rw [List.getElem?_map] at hc
    obtain ⟨t, ht, rfl⟩ := Option.map_eq_some_iff.1 hc
    obtain ⟨q1, rfl, q3⟩ := hE i t x ht hx
    exact ((h.tm t q1).cells q3).1)
  have hHk : ∀ d k, H' d = some k → (d, k) ∈ L ∨ H d = some k := hH'
  have hLH : ∀ p ∈ L, ∀ d k, H d = some k → p.2.b ≠ k.b := fun p hp d k hk he => by
    cases hf : k.fz with
    | true => exact (hH d k hk).1 hf (he ▸ (hB p hp).1)
    | false => exact (g2 p hp).2.2.2 d k hk hf he.symm
  have hT : ∀ g, (Stb w0 S H w g ∧ ¬ B g) → Stb w0 S H' w g := fun g hg => by
    refine ⟨hg.1.1, hg.1.2.1, fun d k hk hf he => ?_⟩
    rcases hHk d k hk with hl | hk
    · exact hg.2 (he ▸ (hB _ hl).1)
    · exact hg.1.2.2 d k hk hf he
  refine ⟨h.defs, h.size, h.bel, h.nle, h.nge, fun t ht => ?_, fun d k hk => ?_, fun d1 d2 k1 k2 e1 e2 he => ?_⟩
  · rcases hE' t ht with e | ⟨e, ha⟩ | ⟨i, e1, e2⟩
    · rw [e]; trivial
    · rw [e]
      exact (ha.rv (h.tm t ht)).mono (on_same hT)
    · have hlt : i < xs.length := by rw [← hts]; exact (List.getElem?_eq_some_iff.1 e1).1
      have hx := List.getElem?_eq_getElem hlt
      obtain ⟨q1, q2, q3⟩ := hE i t _ e1 hx
      have hr := g1 i (E' t) _ e2 (by rw [List.getElem?_map, e1]; rfl)
      refine (rv_of_cells (h.tm t q1) (by rw [q2]; exact q3) ?_ hr).mono (on_same hT)
      rw [q2]
      exact hTw.kind i _ _ hx e2
  · rcases hHk d k hk with hl | hk
    · exact (g2 _ hl).1.mono (on_same hT) rfl
    · obtain ⟨q1, q2, c, e, q3, q4, q5, q6⟩ := h.blk d k hk
      refine ⟨q1, q2, c, e, q3, q4, q5, fun i x hi => ?_⟩
      obtain ⟨cs, r1, r2, r3⟩ := q6 i x hi
      exact ⟨cs, r1, (((hH d k hk).2 x (List.mem_of_getElem? hi)).rc r2).mono (on_same hT), r3⟩
  · rcases hHk d1 k1 e1 with h1 | h1 <;> rcases hHk d2 k2 e2 with h2 | h2
    · exact hinj _ h1 _ h2 he
    · exact absurd he (hLH _ h1 d2 k2 h2)
    · exact absurd he.symm (hLH _ h2 d1 k1 h1)
    · exact h.inj d1 d2 k1 k2 h1 h2 he

/-! ### own rows, made firm -/
inductive Fm (H : Hp) : List AV → List AV → List Nat → Prop
  | nil : Fm H [] [] []
  | same (x : AV) (xs ys : List AV) (l : List Nat) (h : Fm H xs ys l) : Fm H (x :: xs) (x :: ys) l
  | own (d b s len : Nat) (k : Blk) (ys0 xs ys : List AV) (l0 l : List Nat) (hk : H d = some k) (hb : k.b = b) (hs : k.s = s) (hl : len ≤ k.xs.length) (h0 : Fm H k.xs ys0 l0) (h : Fm H xs ys l) :
      Fm H (.own d b s len :: xs) (.lsl (some (b, s)) len ys0 :: ys) (d :: (l0 ++ l))
  | agg (fs gs xs ys : List AV) (l0 l : List Nat) (h0 : Fm H fs gs l0) (h : Fm H xs ys l) : Fm H (.agg fs :: xs) (.agg gs :: ys) (l0 ++ l)

theorem Fm.len {H : Hp} {xs ys : List AV} {l : List Nat} (h : Fm H xs ys l) : xs.length = ys.length := by
  induction h with
  | nil => rfl
  | same _ _ _ _ _ ih => simp [ih]
  | own _ _ _ _ _ _ _ _ _ _ _ _ _ _ _ _ _ ih => simp [ih]
  | agg _ _ _ _ _ _ _ _ _ ih => simp [ih]
theorem Fm.kind {H : Hp} {xs ys : List AV} {l : List Nat} (h : Fm H xs ys l) : ∀ (i : Nat) (x y : AV), xs[i]? = some x → ys[i]? = some y → y.isAgg = x.isAgg ∧ y.sz = x.sz := by
  induction h with
  | nil => intro i x y hx; simp at hx
  | same z _ _ _ _ ih =>
    intro i x y hx hy
    cases i with
    | zero => simp at hx hy; subst hx hy; exact ⟨rfl, rfl⟩
    | succ i => exact ih i x y (by simpa using hx) (by simpa using hy)
  | own _ _ _ _ _ _ _ _ _ _ _ _ _ _ _ _ _ ih =>
    intro i x y hx hy
    cases i with
    | zero => simp at hx hy; subst hx hy; exact ⟨rfl, rfl⟩
    | succ i => exact ih i x y (by simpa using hx) (by simpa using hy)
  | agg _ _ _ _ _ _ h0 _ _ ih =>
    intro i x y hx hy
    cases i with
    | zero => simp at hx hy; subst hx hy; exact ⟨rfl, h0.len.symm⟩
    | succ i => exact ih i x y (by simpa using hx) (by simpa using hy)

section
variable {w0 w : World} {S : Sg} {nt n : Nat} {E : Env} {H H1 : Hp} {a : Act}
theorem Fm.ok {xs ys : List AV} {l : List Nat} (h : SR w0 S nt E H n a w) (hs : ∀ d k, H1 d = some k → H d = some k) (hf : Fm H xs ys l) : ∀ (css : List (List Value)), css.length = xs.length → (∀ d ∈ l, H1 d = none) →
    (∀ (i : Nat) (x : AV) (cs : List Value), xs[i]? = some x → css[i]? = some cs → RC w (Stb w0 S H w) x cs) →
    (∀ (i : Nat) (y : AV) (cs : List Value), ys[i]? = some y → css[i]? = some cs → RC w (Stb w0 S H1 w) y cs) := by
  induction hf with
  | nil => intro css _ _ _ i y cs hy; simp at hy
  | same z xs ys l _ ih =>
    intro css hl hM hr
    cases css with
    | nil => simp at hl
    | cons c css =>
      intro i y cs hy hc
      cases i with
      | zero =>
        obtain rfl : z = y := by simpa using hy
        exact (hr 0 z cs rfl hc).mono (on_same fun g hg => stb_sub hs hg)
      | succ i => exact ih css (by simpa using hl) hM (fun i x cs hx hc => hr (i + 1) x cs (by simpa using hx) (by simpa using hc)) i y cs (by simpa using hy) (by simpa using hc)
  | own d b s len k ys0 xs ys l0 l hk hb hks hl' h0 _ ih0 ih =>
    intro css hl hM hr
    cases css with
    | nil => simp at hl
    | cons c css =>
      intro i y cs hy hc
      cases i with
      | succ i => exact ih css (by simpa using hl) (fun d' hd' => hM d' (by simp [hd'])) (fun i x cs hx hc => hr (i + 1) x cs (by simpa using hx) (by simpa using hc)) i y cs (by simpa using hy) (by simpa using hc)
      | zero =>
        obtain rfl : AV.lsl (some (b, s)) len ys0 = y := by simpa using hy
        obtain rfl : c = cs := by simpa using hc
        subst hb hks
        have hc0 := hr 0 _ c rfl rfl
        cases hc0 with
        | own _ _ _ _ cap hlc hcm hcc =>
        obtain ⟨c', e', hh, hcs⟩ := hcc
        obtain ⟨hlow, hpos, c2, e2, hh2, hlen, _, hall⟩ := h.blk d k hk
        rw [hh2] at hh
        injection hh with hh
        injection hh with hh he _
        subst hh
        have hxc : k.xs.length ≤ cap := by
          rw [hcs] at hlen
          exact Nat.le_of_mul_le_mul_right hlen hpos
        have hd : H1 d = none := hM d (by simp)
        have hT : Stb w0 S H1 w k.b := by
          refine ⟨.inr hlow, (h.blk d k hk).lt, fun d' k' hk' hf he' => ?_⟩
          obtain rfl := h.inj d' d k' k (hs d' k' hk') hk he'
          rw [hd] at hk'
          cases hk'
        let cells : Nat → List Value := fun i => (c2.toList.drop (i * k.s)).take k.s
        have hcell : ∀ (i : Nat) (x : AV), k.xs[i]? = some x → (cells i).length = k.s ∧ RC w (Stb w0 S H w) x (cells i) := by
          intro i x hi
          obtain ⟨cs, h3, h4, h5⟩ := hall i x hi
          have : cells i = cs := by
            apply List.ext_getElem?
            intro j
            simp only [cells, List.getElem?_take, List.getElem?_drop]
            by_cases hj : j < k.s
            · rw [if_pos hj]
              have hj' : j < cs.length := by omega
              have := h5 j cs[j] (List.getElem?_eq_getElem hj')
              rw [List.getElem?_eq_getElem hj', ← this]
              simp
            · rw [if_neg hj, List.getElem?_eq_none (by omega)]
          rw [this]
          exact ⟨h3, h4⟩
        have hyl := h0.len
        have hrow := ih0 ((List.range k.xs.length).map cells) (by simp) (fun d' hd' => hM d' (by simp [hd'])) (fun i x cs hx hc' => by
          have hlt := (List.getElem?_eq_some_iff.1 hx).1
          simp [hlt] at hc'
          subst hc'
          exact (hcell i x hx).2)
        refine RC.lsl (some (k.b, k.s)) len cap k.s ys0 _ cells hlc (by omega) (by omega) hcm (fun _ => ⟨k.b, 0, rfl, hT, fun i x hi => ⟨?_, fun j v hj => ?_⟩⟩) (fun b s' hbs => ?_) (fun i x hi => ?_)
        · have hlt : i < k.xs.length := by rw [hyl]; exact (List.getElem?_eq_some_iff.1 hi).1
          exact (hcell i _ (List.getElem?_eq_getElem hlt)).1
        · simp only [cells, List.getElem?_take, List.getElem?_drop] at hj
          split at hj <;> first | (cases hj; done) | skip
          simp only [World.cell?, hh2, Nat.zero_add]
          simpa using hj
        · obtain ⟨rfl, rfl⟩ : k.b = b ∧ k.s = s' := by simpa using hbs
          exact ⟨rfl, hT, rfl, c2, e2, hh2, hcs⟩
        · have hlt : i < k.xs.length := by rw [hyl]; exact (List.getElem?_eq_some_iff.1 hi).1
          exact hrow i x (cells i) hi (by simp [hlt])
  | agg fs gs xs ys l0 l h0 _ ih0 ih =>
    intro css hl hM hr
    cases css with
    | nil => simp at hl
    | cons c css =>
      intro i y cs hy hc
      cases i with
      | succ i => exact ih css (by simpa using hl) (fun d' hd' => hM d' (by simp [hd'])) (fun i x cs hx hc => hr (i + 1) x cs (by simpa using hx) (by simpa using hc)) i y cs (by simpa using hy) (by simpa using hc)
      | zero =>
        obtain rfl : AV.agg gs = y := by simpa using hy
        obtain rfl : c = cs := by simpa using hc
        have hc0 := hr 0 _ c rfl rfl
        cases hc0 with
        | agg _ _ hl0 hn hrc =>
        have q1 := ih0 (c.map fun u => [u]) (by simp [hl0]) (fun d' hd' => hM d' (by simp [hd'])) (fun i x cs hx hc' => by
          rw [List.getElem?_map] at hc'
          obtain ⟨u, hu, rfl⟩ := Option.map_eq_some_iff.1 hc'
          exact hrc i x u hx hu)
        refine .agg gs c (by rw [← h0.len, hl0]) (fun g hg => ?_) fun i f u hf hu => q1 i f [u] hf (by simp [hu])
        obtain ⟨i, hi⟩ := List.mem_iff_getElem?.1 hg
        have hlt : i < fs.length := by rw [h0.len]; exact (List.getElem?_eq_some_iff.1 hi).1
        rw [(h0.kind i _ g (List.getElem?_eq_getElem hlt) hi).1]
        exact hn _ (List.getElem_mem hlt)
end

/-- Own rows are made firm, those that lie in them too. -/
theorem firm {lo nt n : Nat} {E : Env} {H : Hp} (xs ys : List AV) (ks : List Nat) (ts : List Nat) (hF : Fm H xs ys ks) (hts : ts.length = xs.length) (hE : ∀ (i t : Nat) (x : AV), ts[i]? = some t → xs[i]? = some x → t < nt ∧ E t = x ∧ x.sz ≠ 0) {E' : Env} {H' : Hp}
    (hE' : ∀ t, t < nt → E' t = .undef ∨ E' t = E t ∨ ∃ i : Nat, ts[i]? = some t ∧ ys[i]? = some (E' t)) (hs : ∀ d k, H' d = some k → H d = some k) (hks : ∀ d ∈ ks, H' d = none) : GH lo nt E H n E' H' := by
  intro w0 S a w hlo h
  have hsub := h.sub hs
  have g1 := hF.ok h hs (ts.map fun t => (a.tmps.getD t undef).cells.toList) (by simp [hts]) hks (fun i x cs hx hc => by
    rw [List.getElem?_map] at hc
    obtain ⟨t, ht, rfl⟩ := Option.map_eq_some_iff.1 hc
    obtain ⟨q1, rfl, q3⟩ := hE i t x ht hx
    exact ((h.tm t q1).cells q3).1)
  refine ⟨h.defs, h.size, h.bel, h.nle, h.nge, fun t ht => ?_, hsub.blk, hsub.inj⟩
  rcases hE' t ht with e | e | ⟨i, e1, e2⟩
  · rw [e]; trivial
  · rw [e]; exact hsub.tm t ht
  · have hlt : i < xs.length := by rw [← hts]; exact (List.getElem?_eq_some_iff.1 e1).1
    have hx := List.getElem?_eq_getElem hlt
    obtain ⟨q1, q2, q3⟩ := hE i t _ e1 hx
    refine rv_of_cells (h.tm t q1) (by rw [q2]; exact q3) ?_ (g1 i (E' t) _ e2 (by rw [List.getElem?_map, e1]; rfl))
    rw [q2]
    exact hF.kind i _ _ hx e2
/-- one value is made firm; nothing may be written any more -/
theorem gh_firm1 {l : FuncId → Law} {m : FuncId → LawM} {lo nt n : Nat} {E : Env} {H : Hp} {C : Env → Hp → Prop} (t : Nat) {x y : AV} {ks : List Nat} (hF : Fm H [x] [y] ks) (ht : t < nt) (hE : E t = x) (hz : x.sz ≠ 0) (hk : C (upd E t y) (fun _ => none)) : bgh ⟨l, m, GH lo nt⟩ E H n C := by
  refine ghost_rule (L := ⟨l, m, GH lo nt⟩) (upd E t y) (fun _ => none) (firm [x] [y] ks [t] hF rfl ?_ ?_ ?_ ?_) hk
  · rintro (_ | i) t' x' h1 h2
    · obtain rfl : t = t' := by simpa using h1
      obtain rfl : x = x' := by simpa using h2
      exact ⟨ht, hE, hz⟩
    · simp at h1
  · intro t' _
    by_cases h : t' = t
    · subst h
      exact .inr (.inr ⟨0, rfl, by simp [upd]⟩)
    · exact .inr (.inl (by simp [upd, h]))
  · intro d k hk
    cases hk
  · intro d _
    rfl
/-- one firm value is taken over to be written; of the others those in kp are kept -/
theorem gh_thaw1 {l : FuncId → Law} {m : FuncId → LawM} {lo nt n : Nat} {E : Env} {H H' : Hp} {C : Env → Hp → Prop} (t : Nat) (kp : List Nat) (B : Nat → Prop) {x y : AV} {L : List (Nat × Blk)} (hTw : Tw B [x] [y] L) (ht : t < nt) (hE : E t = x) (hz : x.sz ≠ 0)
    (hB : ∀ p ∈ L, B p.2.b ∧ lo ≤ p.2.b) (hinj : ∀ p ∈ L, ∀ q ∈ L, p.2.b = q.2.b → p.1 = q.1) (hH : ∀ d k, H d = some k → (k.fz = true → ¬ B k.b) ∧ ∀ x ∈ k.xs, Av B x) (hkp : ∀ q ∈ kp, Av B (E q)) (hH' : ∀ d k, H' d = some k → (d, k) ∈ L ∨ H d = some k)
    (hk : C (fun q => if q = t then y else if q ∈ kp then E q else .undef) H') : bgh ⟨l, m, GH lo nt⟩ E H n C := by
  refine ghost_rule (L := ⟨l, m, GH lo nt⟩) _ H' (thaw B [x] [y] L [t] hTw rfl ?_ hB hinj hH ?_ hH') hk
  · rintro (_ | i) t' x' h1 h2
    · obtain rfl : t = t' := by simpa using h1
      obtain rfl : x = x' := by simpa using h2
      exact ⟨ht, hE, hz⟩
    · simp at h1
  · intro t' _
    by_cases h : t' = t
    · subst h
      exact .inr (.inr ⟨0, rfl, by simp⟩)
    · by_cases h2 : t' ∈ kp
      · exact .inr (.inl ⟨by simp [h, h2], hkp t' h2⟩)
      · exact .inl (by simp [h, h2])
theorem gh_id {l : FuncId → Law} {m : FuncId → LawM} {lo nt n : Nat} {E : Env} {H : Hp} {C : Env → Hp → Prop} (hk : C E H) : bgh ⟨l, m, GH lo nt⟩ E H n C := ghost_rule (L := ⟨l, m, GH lo nt⟩) E H gh_refl hk
end Go.AVM

/- Values that read as plainer ones; small sums of the machine's steps. -/
namespace Go.AVM
set_option linter.unusedSimpArgs false
set_option linter.unusedVariables false

/-- what reads as x reads as y -/
inductive Wk : AV → AV → Prop
  | refl (x : AV) : Wk x x
  | emp : Wk .emp (.lsl none 0 [])
  | lsl (t : Option (Nat × Nat)) (len : Nat) (xs ys : List AV) (h1 : len ≤ ys.length) (h2 : ys.length ≤ xs.length) (h : ∀ (i : Nat) (x y : AV), xs[i]? = some x → ys[i]? = some y → Wk x y) : Wk (.lsl t len xs) (.lsl none len ys)
  | agg (fs gs : List AV) (hl : fs.length = gs.length) (h : ∀ (i : Nat) (x y : AV), fs[i]? = some x → gs[i]? = some y → Wk x y) : Wk (.agg fs) (.agg gs)
theorem Wk.kind {x y : AV} (h : Wk x y) : y.isAgg = x.isAgg ∧ y.sz = x.sz := by
  cases h <;> simp_all [AV.isAgg, AV.sz]
theorem Wk.rc {w : World} {T : Nat → Prop} {x y : AV} (h : Wk x y) : ∀ {cs : List Value}, RC w T x cs → RC w T y cs := by
  induction h with
  | refl x => exact fun h => h
  | emp =>
    intro cs h
    cases h with
    | emp a => exact .lsl none 0 0 0 [] a (fun _ => []) (Nat.le_refl _) (Nat.le_refl _) (Nat.le_refl _) (Nat.zero_le _) (by simp) (by simp) (by simp)
  | lsl t len xs ys h1 h2 h ih =>
    intro cs hr
    cases hr with
    | lsl _ _ cap s _ a cells g1 g2 g3 hm hne ht hrc =>
    have hx : ∀ (i : Nat) (y : AV), ys[i]? = some y → ∃ x, xs[i]? = some x := fun i y hy => by
      have hlt := (List.getElem?_eq_some_iff.1 hy).1
      exact ⟨xs[i], List.getElem?_eq_getElem (by omega)⟩
    refine .lsl none len cap s ys a cells g1 h1 (Nat.le_trans h2 g3) hm (fun hy => ?_) (by simp) (fun i y hy => ?_)
    · have hxne : xs ≠ [] := by
        rintro rfl
        exact hy (List.eq_nil_of_length_eq_zero (Nat.le_zero.1 h2))
      obtain ⟨g, off, ha, hT, hc⟩ := hne hxne
      refine ⟨g, off, ha, hT, fun i y hy => ?_⟩
      obtain ⟨x, hx⟩ := hx i y hy
      exact hc i x hx
    · obtain ⟨x, hx⟩ := hx i y hy
      exact ih i x y hx hy (hrc i x hx)
  | agg fs gs hl h ih =>
    intro cs hr
    cases hr with
    | agg _ _ g1 g2 g3 =>
    have hx : ∀ (i : Nat) (y : AV), gs[i]? = some y → ∃ x, fs[i]? = some x := fun i y hy => by
      have hlt := (List.getElem?_eq_some_iff.1 hy).1
      exact ⟨fs[i], List.getElem?_eq_getElem (by omega)⟩
    refine .agg gs cs (by omega) (fun g hg => ?_) (fun i f c hf hc => ?_)
    · obtain ⟨i, hi⟩ := List.mem_iff_getElem?.1 hg
      obtain ⟨x, hx⟩ := hx i g hi
      rw [(h i x g hx hi).kind.1]
      exact g2 x (List.mem_of_getElem? hx)
    · obtain ⟨x, hx⟩ := hx i f hf
      exact ih i x f hx hf (g3 i x c hx hc)
theorem Wk.rv {w : World} {T : Nat → Prop} {x y : AV} {v : Value} (h : Wk x y) (hr : RV w T x v) : RV w T y v := by
  cases h with
  | refl => exact hr
  | emp => exact Wk.rc (T := T) .emp hr
  | lsl t len xs ys h1 h2 h => exact Wk.rc (.lsl t len xs ys h1 h2 h) hr
  | agg fs gs hl h =>
    obtain ⟨cs, rfl, hc⟩ := hr
    exact ⟨cs, rfl, Wk.rc (.agg fs gs hl h) hc⟩
inductive WkL : List AV → List AV → Prop
  | nil : WkL [] []
  | cons {x y : AV} {xs ys : List AV} (h : Wk x y) (hs : WkL xs ys) : WkL (x :: xs) (y :: ys)
theorem WkL.get {xs ys : List AV} (h : WkL xs ys) : xs.length = ys.length ∧ ∀ (i : Nat) (y : AV), ys[i]? = some y → ∃ x, xs[i]? = some x ∧ Wk x y := by
  induction h with
  | nil => exact ⟨rfl, by simp⟩
  | cons h hs ih =>
    refine ⟨by simp [ih.1], fun i y hy => ?_⟩
    cases i with
    | zero =>
      simp at hy
      subst hy
      exact ⟨_, rfl, h⟩
    | succ i => exact ih.2 i y (by simpa using hy)
theorem OK.wk {P : Program} {f : FuncId} {args args' : List AV} {R : Nat → Nat → AV → Prop} (h : OK P f args' R) (hw : WkL args args') : OK P f args R := by
  obtain ⟨h1, h2⟩ := hw.get
  have key : ∀ {w : World} {S : Nat → Prop} {vs : Array Value}, RVs w S args vs → RVs w S args' vs := fun hvs => ⟨by rw [← h1]; exact hvs.1, fun i y hy => by
    obtain ⟨x, hx, hxy⟩ := h2 i y hy
    obtain ⟨u, hu, hr⟩ := hvs.2 i x hx
    exact ⟨u, hu, hxy.rv hr⟩⟩
  exact h.imp (fun h => ⟨h.1, fun w S vs hS hvs => h.2 w S vs hS (key hvs)⟩) fun h w S vs hS hvs => h w S vs hS (key hvs)
theorem Wk.list {t : Option (Nat × Nat)} {α : Type} (e f : α → AV) (xs : List α) (h : ∀ x ∈ xs, Wk (e x) (f x)) : Wk (.lsl t xs.length (xs.map e)) (.lsl none xs.length (xs.map f)) := by
  refine .lsl t _ _ _ (by simp) (by simp) fun i x y hx hy => ?_
  rw [List.getElem?_map] at hx hy
  obtain ⟨z, hz, rfl⟩ := Option.map_eq_some_iff.1 hx
  rw [hz] at hy
  obtain rfl := Option.some.inj hy
  exact h z (List.mem_of_getElem? hz)

theorem Wk.strip (t : Option (Nat × Nat)) (n : Nat) (xs : List AV) (h : n ≤ xs.length) : Wk (.lsl t n xs) (.lsl none n xs) :=
  .lsl t n xs xs h (Nat.le_refl _) fun i x y hx hy => by rw [hx] at hy; obtain rfl := Option.some.inj hy; exact .refl _
/-- a field, or a list, as a callee may be handed it -/
inductive Pf (fl : Bool) : AV → Prop
  | bool (b : Bool) : Pf fl (.bool b)
  | int (k : IntKind) (n : Int) : Pf fl (.int k n)
  | str (s : ByteArray) : Pf fl (.str s)
  | lsl (n : Nat) (ys : List AV) (h : fl = false → n = ys.length) (hn : n ≤ ys.length) : Pf fl (.lsl none n ys)
theorem rd1_wk {fl : Bool} {r y : AV} (hp : Pf fl y) (h : Wk r y) (H : Hp) : ∃ r', rd1o fl H r = some (r', []) ∧ Wk r' y := by
  cases hp with
  | bool b => cases h; exact ⟨_, rfl, .refl _⟩
  | int k n => cases h; exact ⟨_, rfl, .refl _⟩
  | str s => cases h; exact ⟨_, rfl, .refl _⟩
  | lsl n ys hy hn =>
    cases h with
    | refl =>
      refine ⟨_, rfl, ?_⟩
      cases fl with
      | true => exact .refl _
      | false =>
        have := hy rfl
        simp only [Bool.false_eq_true, if_false]
        rw [List.take_of_length_le (by omega)]
        exact .refl _
    | emp => exact ⟨_, rfl, .refl _⟩
    | lsl t _ xs _ h1 h2 h =>
      refine ⟨_, rfl, ?_⟩
      cases fl with
      | true => exact .lsl none n xs ys h1 h2 h
      | false =>
        have := hy rfl
        simp only [Bool.false_eq_true, if_false]
        refine .lsl none n (xs.take n) ys h1 (by simp; omega) fun i x y hx hy => ?_
        rw [List.getElem?_take] at hx
        split at hx
        · exact h i x y hx hy
        · cases hx
theorem rds_wk {fl : Bool} (H : Hp) : ∀ (fs gs : List AV), fs.length = gs.length → (∀ g ∈ gs, Pf fl g) → (∀ (i : Nat) (x y : AV), fs[i]? = some x → gs[i]? = some y → Wk x y) →
    ∃ fs', rdso fl H fs = some (fs', []) ∧ fs'.length = gs.length ∧ ∀ (i : Nat) (x y : AV), fs'[i]? = some x → gs[i]? = some y → Wk x y
  | [], [], _, _, _ => ⟨[], rfl, rfl, by simp⟩
  | f :: fs, [], hl, _, _ => by simp at hl
  | [], g :: gs, hl, _, _ => by simp at hl
  | f :: fs, g :: gs, hl, hp, h => by
    obtain ⟨f', h1, h2⟩ := rd1_wk (hp g List.mem_cons_self) (h 0 f g rfl rfl) H
    obtain ⟨fs', h3, h4, h5⟩ := rds_wk H fs gs (by simpa using hl) (fun x hx => hp x (List.mem_cons_of_mem _ hx)) fun i x y hx hy => h (i + 1) x y (by simpa using hx) (by simpa using hy)
    refine ⟨f' :: fs', by simp [rdso, h1, h3], by simp [h4], fun i x y hx hy => ?_⟩
    cases i with
    | zero =>
      simp at hx hy
      subst hx hy
      exact h2
    | succ i => exact h5 i x y (by simpa using hx) (by simpa using hy)
inductive Pl (fl : Bool) : AV → Prop
  | fld (y : AV) (h : Pf fl y) : Pl fl y
  | agg (gs : List AV) (h : ∀ g ∈ gs, Pf fl g) : Pl fl (.agg gs)
theorem rd3_of1 {fl : Bool} {H : Hp} {r r' : AV} (h : rd1o fl H r = some (r', [])) (hn : ∀ f c, r ≠ .fn f c) : rd3o fl H r = some (r', []) := by
  cases r <;> first | exact h | (exact absurd rfl (hn _ _)) | (simp [rd1o] at h)
theorem rd_wk {fl : Bool} {r y : AV} (h : Wk r y) (hp : Pl fl y) (H : Hp) : ∃ r', rd3o fl H r = some (r', []) ∧ Wk r' y := by
  cases hp with
  | fld _ hp =>
    obtain ⟨r', h1, h2⟩ := rd1_wk hp h H
    refine ⟨r', rd3_of1 h1 ?_, h2⟩
    rintro f c rfl
    cases h
    cases hp
  | agg gs hp =>
    have key : ∀ fs : List AV, fs.length = gs.length → (∀ (i : Nat) (x y : AV), fs[i]? = some x → gs[i]? = some y → Wk x y) → ∃ r', rd3o fl H (.agg fs) = some (r', []) ∧ Wk r' (.agg gs) := fun fs hl hw => by
      obtain ⟨fs', h1, h2, h3⟩ := rds_wk H fs gs hl hp hw
      exact ⟨.agg fs', by simp [rd3o, rd2o, rdpo, h1], .agg fs' gs h2 h3⟩
    cases h with
    | refl => exact key gs rfl fun i x y hx hy => by rw [hx] at hy; obtain rfl := Option.some.inj hy; exact .refl _
    | agg fs _ hl hw => exact key fs hl hw
theorem sol1_wk {fl : Bool} {r y : AV} (hp : Pf fl y) (h : Wk r y) (H : Hp) : solo1 H r = some (r, H) := by
  cases hp <;> cases h <;> rfl
theorem sols_wk {fl : Bool} (H : Hp) : ∀ (fs gs : List AV), fs.length = gs.length → (∀ g ∈ gs, Pf fl g) → (∀ (i : Nat) (x y : AV), fs[i]? = some x → gs[i]? = some y → Wk x y) → solso H fs = some (fs, H)
  | [], [], _, _, _ => rfl
  | f :: fs, [], hl, _, _ => by simp at hl
  | [], g :: gs, hl, _, _ => by simp at hl
  | f :: fs, g :: gs, hl, hp, h => by
    have h1 := sol1_wk (hp g List.mem_cons_self) (h 0 f g rfl rfl) H
    have h3 := sols_wk H fs gs (by simpa using hl) (fun x hx => hp x (List.mem_cons_of_mem _ hx)) fun i x y hx hy => h (i + 1) x y (by simpa using hx) (by simpa using hy)
    simp [solso, h1, h3]
theorem sol_wk {fl : Bool} {r y : AV} (h : Wk r y) (hp : Pl fl y) (H : Hp) : solo H r = some (r, H) := by
  cases hp with
  | fld _ hp =>
    have := sol1_wk hp h H
    cases r <;> first | exact this | (cases h <;> cases hp)
  | agg gs hp =>
    cases h with
    | refl =>
      have := sols_wk H gs gs rfl hp fun i x y hx hy => by rw [hx] at hy; obtain rfl := Option.some.inj hy; exact .refl _
      simp [solo, this]
    | agg fs _ hl hw =>
      have := sols_wk H fs gs hl hp hw
      simp [solo, this]

/-- whatever a call has given -/
theorem r_any (d lo hi : Nat) (r : AV) (E : Env) (H : Hp) (K : Env → Hp → Nat → Prop) : bres false d lo hi E H [] r K = K (upd E d r) H hi := by
  simp only [bres, impv, frz]
  split <;> rfl
/-- loads and stores at an own row that is plain to see -/
theorem ldv_f (H : Hp) (sz : Option Nat) (d b s i f : Nat) : ldv H sz (.optr d b s i (some f)) = (H d).bind fun k => if k.b = b ∧ k.s = s ∧ sz = none then (k.xs[i]?).bind (fldv f) else none := by
  simp only [ldv]
  congr
theorem ldv_n (H : Hp) (sz : Option Nat) (d b s i : Nat) : ldv H sz (.optr d b s i none) = (H d).bind fun k => if k.b = b ∧ k.s = s then (k.xs[i]?).bind fun y => if fitsz sz y = true ∧ (sz = none → s = 1) then some y else none else none := by
  simp only [ldv]
def setf (j s : Nat) (v : AV) : AV → Option AV
  | .agg fs => if j < fs.length ∧ fs.length = s then some (.agg (fs.set j v)) else none
  | _ => none
def stvR (H : Hp) (v : AV) (d b s i j : Nat) : Option Hp := stv H none v (.optr d b s i (some j))
theorem stv_f (H : Hp) (v : AV) (d b s i j : Nat) : stv H none v (.optr d b s i (some j)) = if fitsz none v = true ∧ v.sz = 1 then (H d).bind fun k0 => if k0.row = true then stvR H v d b s i j else
    if k0.b = b ∧ k0.s = s ∧ k0.fz = false then ((k0.xs[i]?).bind (setf j s v)).map fun y => updH H d (some { k0 with xs := k0.xs.set i y }) else none else none := by
  by_cases hc : fitsz none v = true ∧ v.sz = 1
  · rw [if_pos hc]
    cases hH : H d with
    | none => simp [stv, hH]
    | some k0 =>
      simp only [Option.bind_some]
      by_cases hr : k0.row = true
      · rw [if_pos hr, stvR]
      · rw [if_neg hr]
        simp only [stv]
        rw [if_pos ⟨by simp, hc.1, fun _ => hc.2⟩, hH]
        simp only [Option.bind_some, if_neg hr, hH]
        by_cases hb : k0.b = b ∧ k0.s = s ∧ k0.fz = false
        · rw [if_pos hb, if_pos hb]
          cases k0.xs[i]? with
          | none => rfl
          | some y =>
            cases y <;> simp [setf]
        · rw [if_neg hb, if_neg hb]
  · rw [if_neg hc]
    simp only [stv]
    rw [if_neg]
    exact fun h => hc ⟨h.2.1, by simpa using h.2.2⟩
def stvS (H : Hp) (m : Nat) (v : AV) (d b s i : Nat) : Option Hp := stv H (some m) v (.optr d b s i none)
theorem stv_a (H : Hp) (m : Nat) (fs : List AV) (d b s i : Nat) : stv H (some m) (.agg fs) (.optr d b s i none) = (H d).bind fun k0 => if k0.row = true then stvS H m (.agg fs) d b s i else
    if k0.b = b ∧ k0.s = s ∧ k0.fz = false ∧ i < k0.xs.length ∧ fs.length = m ∧ fs.length = s then some (updH H d (some { k0 with xs := k0.xs.set i (.agg fs) })) else none := by
  cases hH : H d with
  | none => simp [stv, hH]
  | some k0 =>
    simp only [Option.bind_some]
    by_cases hr : k0.row = true
    · rw [if_pos hr, stvS]
    · rw [if_neg hr]
      simp only [stv, hH]
      by_cases hm : fs.length = m
      · rw [if_pos ⟨by simp, by simp [fitsz, hm], by simp⟩]
        simp only [Option.bind_some, if_neg hr, hH]
        by_cases hb : k0.b = b ∧ k0.s = s ∧ k0.fz = false
        · rw [if_pos hb]
          by_cases hi : i < k0.xs.length
          · rw [List.getElem?_eq_getElem hi]
            simp only [Option.bind_some, AV.sz]
            by_cases hs : fs.length = s
            · subst hs
              simp [hb, hi, hm]
            · simp [hs]
          · rw [List.getElem?_eq_none (by omega)]
            simp [hi]
        · rw [if_neg hb, if_neg (fun h => hb ⟨h.1, h.2.1, h.2.2.1⟩)]
      · rw [if_neg (fun h => hm (by simpa [fitsz] using h.2.1))]
        by_cases hb : k0.b = b ∧ k0.s = s ∧ k0.fz = false ∧ i < k0.xs.length ∧ fs.length = m ∧ fs.length = s
        · exact absurd hb.2.2.2.2.1 hm
        · rw [if_neg hb]
theorem stv_n (H : Hp) (sz : Option Nat) (v : AV) (d b s i : Nat) (xs : List AV) (ex : Bool) (hH : H d = some ⟨b, s, xs, false, false, ex⟩) (hv : fitsz sz v = true ∧ (sz = none → v.sz = 1)) (hs : v.sz = s) (hi : i < xs.length) :
    stv H sz v (.optr d b s i none) = some (updH H d (some ⟨b, s, xs.set i v, false, false, ex⟩)) := by
  simp only [stv]
  rw [if_pos ⟨by simp, hv.1, hv.2⟩, hH]
  simp only [Option.bind_some, Bool.false_eq_true, if_false, hH]
  simp [hs, hi]
/-- a row of structs: all of one element is written -/
theorem st_agg {H : Hp} {d b s i : Nat} {xs : List AV} {row ex : Bool} {fs : List AV} (hH : H d = some ⟨b, s, xs, false, row, ex⟩) (hi : i < xs.length) (hl : fs.length = s) (h4 : solo H (.agg fs) = some (.agg fs, H)) :
    stv H (some s) (.agg fs) (.optr d b s i none) = some (updH H d (some ⟨b, s, xs.set i (.agg fs), false, row, ex⟩)) := by
  simp only [stv]
  rw [if_pos ⟨by simp, by simp [fitsz, hl], by simp⟩, hH]
  cases row <;> simp only [Option.bind_some, Bool.false_eq_true, if_false, if_true, h4, hH] <;> simp [AV.sz, hl, hi]
mutual
/-- the blocks of its rows -/
def tags : AV → List Nat
  | .lsl (some (b, _)) _ xs => b :: tagsL xs
  | .lsl none _ xs => tagsL xs
  | .agg fs => tagsL fs
  | .tup fs => tagsL fs
  | _ => []
def tagsL : List AV → List Nat
  | [] => []
  | x :: xs => tags x ++ tagsL xs
end
theorem tagsL_app (xs ys : List AV) : tagsL (xs ++ ys) = tagsL xs ++ tagsL ys := by
  induction xs with
  | nil => rfl
  | cons x xs ih => simp [tagsL, ih]
theorem tagsL_none {xs : List AV} (h : ∀ x ∈ xs, tags x = []) : tagsL xs = [] := by
  induction xs with
  | nil => rfl
  | cons x xs ih => simp [tagsL, h x List.mem_cons_self, ih fun y hy => h y (List.mem_cons_of_mem _ hy)]
theorem tagsL_strs (xs : List ByteArray) : tagsL (xs.map .str) = [] := tagsL_none fun x hx => by
  obtain ⟨s, _, rfl⟩ := List.mem_map.1 hx
  rfl
/-- its rows' blocks: each its own, and new -/
def Tin (lo hi : Nat) (l : List Nat) : Prop := l.Nodup ∧ ∀ b ∈ l, lo ≤ b ∧ b < hi
theorem Tin.nil {lo hi : Nat} : Tin lo hi [] := ⟨List.nodup_nil, by simp⟩
theorem Tin.mono {lo hi lo' hi' : Nat} {l : List Nat} (h : Tin lo hi l) (h1 : lo' ≤ lo) (h2 : hi ≤ hi') : Tin lo' hi' l := ⟨h.1, fun b hb => by have := h.2 b hb; omega⟩
theorem Tin.app {lo mid mid' hi : Nat} {l l' : List Nat} (h : Tin lo mid l) (h' : Tin mid' hi l') (hm : mid ≤ mid') (h1 : lo ≤ mid') (h2 : mid ≤ hi) : Tin lo hi (l ++ l') := by
  refine ⟨List.nodup_append.2 ⟨h.1, h'.1, fun a ha b hb e => ?_⟩, fun b hb => ?_⟩
  · have g1 := h.2 a ha
    have g2 := h'.2 b hb
    omega
  · rcases List.mem_append.1 hb with hb | hb
    · have := h.2 b hb; omega
    · have := h'.2 b hb; omega
theorem Tin.cons {lo hi b : Nat} {l : List Nat} (h : Tin lo hi l) (hb : b ∉ l) (h1 : lo ≤ b) (h2 : b < hi) : Tin lo hi (b :: l) :=
  ⟨List.nodup_cons.2 ⟨hb, h.1⟩, fun c hc => by
    rcases List.mem_cons.1 hc with rfl | hc
    · exact ⟨h1, h2⟩
    · exact h.2 c hc⟩
end Go.AVM

/- Trees of tagged lists: taken over to be written, whole. -/
namespace Go.AVM
set_option linter.unusedSimpArgs false
set_option linter.unusedVariables false
mutual
def ow : AV → AV
  | .lsl (some (b, s)) len _ => .own b b s len
  | .agg fs => .agg (owL fs)
  | x => x
def owL : List AV → List AV
  | [] => []
  | x :: xs => ow x :: owL xs
end
mutual
def bl : AV → List (Nat × Blk)
  | .lsl (some (b, s)) _ xs => (b, ⟨b, s, owL xs, false, false, false⟩) :: blL xs
  | .agg fs => blL fs
  | _ => []
def blL : List AV → List (Nat × Blk)
  | [] => []
  | x :: xs => bl x ++ blL xs
end
mutual
/-- each list in it is tagged -/
def tok : AV → Bool
  | .lsl (some (_, s)) _ xs => decide (0 < s) && tokL xs
  | .agg fs => tokL fs
  | .bool _ => true
  | .int _ _ => true
  | .str _ => true
  | .emp => true
  | _ => false
def tokL : List AV → Bool
  | [] => true
  | x :: xs => tok x && tokL xs
end
mutual
theorem tw1 {B : Nat → Prop} : ∀ (x : AV), tok x = true → ∀ (xs ys : List AV) (l : List (Nat × Blk)), Tw B xs ys l → Tw B (x :: xs) (ow x :: ys) (bl x ++ l)
  | .lsl (some (b, s)) len zs, h, xs, ys, l, hw => by
    simp only [tok, Bool.and_eq_true, decide_eq_true_eq] at h
    exact .lsl b b s len zs (owL zs) xs ys (blL zs) l h.1 (twL zs h.2) hw
  | .agg fs, h, xs, ys, l, hw => .agg fs (owL fs) xs ys (blL fs) l (twL fs (by simpa [tok] using h)) hw
  | .bool b, _, xs, ys, l, hw => .same _ xs ys l (.bool b) hw
  | .int k n, _, xs, ys, l, hw => .same _ xs ys l (.int k n) hw
  | .str s, _, xs, ys, l, hw => .same _ xs ys l (.str s) hw
  | .emp, _, xs, ys, l, hw => .same _ xs ys l .emp hw
  | .lsl none _ _, h, _, _, _, _ => by simp [tok] at h
  | .undef, h, _, _, _, _ => by simp [tok] at h
  | .own _ _ _ _, h, _, _, _, _ => by simp [tok] at h
  | .lptr _, h, _, _, _, _ => by simp [tok] at h
  | .optr _ _ _ _ _, h, _, _, _, _ => by simp [tok] at h
  | .fn _ _, h, _, _, _, _ => by simp [tok] at h
  | .tup _, h, _, _, _, _ => by simp [tok] at h
  | .old _ _, h, _, _, _, _ => by simp [tok] at h
theorem twL {B : Nat → Prop} : ∀ (xs : List AV), tokL xs = true → Tw B xs (owL xs) (blL xs)
  | [], _ => .nil
  | x :: xs, h => by
    simp only [tokL, Bool.and_eq_true] at h
    exact tw1 x h.1 xs (owL xs) (blL xs) (twL xs h.2)
end
mutual
theorem bl_fst : ∀ (x : AV), tok x = true → (bl x).map (·.1) = tags x ∧ ∀ p ∈ bl x, p.2.b = p.1
  | .lsl (some (b, s)) len zs, h => by
    simp only [tok, Bool.and_eq_true, decide_eq_true_eq] at h
    obtain ⟨h1, h2⟩ := blL_fst zs h.2
    refine ⟨by simp [bl, tags, h1], fun p hp => ?_⟩
    simp only [bl] at hp
    rcases List.mem_cons.1 hp with rfl | hp
    · rfl
    · exact h2 p hp
  | .agg fs, h => by
    have := blL_fst fs (by simpa [tok] using h)
    simpa [bl, tags] using this
  | .bool b, _ => by simp [bl, tags]
  | .int k n, _ => by simp [bl, tags]
  | .str s, _ => by simp [bl, tags]
  | .emp, _ => by simp [bl, tags]
  | .lsl none _ _, h => by simp [tok] at h
  | .undef, h => by simp [tok] at h
  | .own _ _ _ _, h => by simp [tok] at h
  | .lptr _, h => by simp [tok] at h
  | .optr _ _ _ _ _, h => by simp [tok] at h
  | .fn _ _, h => by simp [tok] at h
  | .tup _, h => by simp [tok] at h
  | .old _ _, h => by simp [tok] at h
theorem blL_fst : ∀ (xs : List AV), tokL xs = true → (blL xs).map (·.1) = tagsL xs ∧ ∀ p ∈ blL xs, p.2.b = p.1
  | [], _ => by simp [blL, tagsL]
  | x :: xs, h => by
    simp only [tokL, Bool.and_eq_true] at h
    obtain ⟨h1, h2⟩ := bl_fst x h.1
    obtain ⟨h3, h4⟩ := blL_fst xs h.2
    refine ⟨by simp [blL, tagsL, h1, h3], fun p hp => ?_⟩
    simp only [blL] at hp
    rcases List.mem_append.1 hp with hp | hp
    · exact h2 p hp
    · exact h4 p hp
end
mutual
theorem av_of {B : Nat → Prop} : ∀ (x : AV), tok x = true → (∀ b ∈ tags x, ¬ B b) → Av B x
  | .lsl (some (b, s)) len zs, h, hb => by
    simp only [tok, Bool.and_eq_true, decide_eq_true_eq] at h
    simp only [tags] at hb
    exact .lsl b s len zs (hb b List.mem_cons_self) (avL_of zs h.2 fun c hc => hb c (List.mem_cons_of_mem _ hc))
  | .agg fs, h, hb => .agg fs (avL_of fs (by simpa [tok] using h) (by simpa [tags] using hb))
  | .bool b, _, _ => .bool b
  | .int k n, _, _ => .int k n
  | .str s, _, _ => .str s
  | .emp, _, _ => .emp
  | .lsl none _ _, h, _ => by simp [tok] at h
  | .undef, h, _ => by simp [tok] at h
  | .own _ _ _ _, h, _ => by simp [tok] at h
  | .lptr _, h, _ => by simp [tok] at h
  | .optr _ _ _ _ _, h, _ => by simp [tok] at h
  | .fn _ _, h, _ => by simp [tok] at h
  | .tup _, h, _ => by simp [tok] at h
  | .old _ _, h, _ => by simp [tok] at h
theorem avL_of {B : Nat → Prop} : ∀ (xs : List AV), tokL xs = true → (∀ b ∈ tagsL xs, ¬ B b) → ∀ x ∈ xs, Av B x
  | [], _, _ => by simp
  | x :: xs, h, hb => by
    simp only [tokL, Bool.and_eq_true] at h
    simp only [tagsL] at hb
    have h1 := av_of x h.1 fun b hb' => hb b (List.mem_append_left _ hb')
    have h2 := avL_of xs h.2 (fun b hb' => hb b (List.mem_append_right _ hb'))
    intro y hy
    rcases List.mem_cons.1 hy with e | hy
    · rw [e]; exact h1
    · exact h2 y hy
end
mutual
theorem bl_fz : ∀ (x : AV), ∀ p ∈ bl x, p.2.fz = false
  | .lsl (some (b, s)) len zs => by
    have h1 := blL_fz zs
    intro p hp
    simp only [bl] at hp
    rcases List.mem_cons.1 hp with e | hp
    · rw [e]
    · exact h1 p hp
  | .agg fs => by
    have h1 := blL_fz fs
    simpa [bl] using h1
  | .bool b => by simp [bl]
  | .int k n => by simp [bl]
  | .str s => by simp [bl]
  | .emp => by simp [bl]
  | .lsl none _ _ => by simp [bl]
  | .undef => by simp [bl]
  | .own _ _ _ _ => by simp [bl]
  | .lptr _ => by simp [bl]
  | .optr _ _ _ _ _ => by simp [bl]
  | .fn _ _ => by simp [bl]
  | .tup _ => by simp [bl]
  | .old _ _ => by simp [bl]
theorem blL_fz : ∀ (xs : List AV), ∀ p ∈ blL xs, p.2.fz = false
  | [] => by simp [blL]
  | x :: xs => by
    have h1 := bl_fz x
    have h2 := blL_fz xs
    intro p hp
    simp only [blL] at hp
    rcases List.mem_append.1 hp with hp | hp
    · exact h1 p hp
    · exact h2 p hp
end
theorem tokL_iff (xs : List AV) : tokL xs = true ↔ ∀ x ∈ xs, tok x = true := by
  induction xs with
  | nil => simp [tokL]
  | cons x xs ih => simp [tokL, ih]
theorem tokL_app (xs ys : List AV) : tokL (xs ++ ys) = (tokL xs && tokL ys) := by
  induction xs with
  | nil => simp [tokL]
  | cons x xs ih => simp [tokL, ih, Bool.and_assoc]
theorem tokL_strs (xs : List ByteArray) : tokL (xs.map .str) = true := (tokL_iff _).2 fun x hx => by
  obtain ⟨s, _, rfl⟩ := List.mem_map.1 hx
  rfl
theorem owL_map (xs : List AV) : owL xs = xs.map ow := by
  induction xs with
  | nil => rfl
  | cons x xs ih => simp [owL, ih]
theorem blL_none {xs : List AV} (h : ∀ x ∈ xs, bl x = []) : blL xs = [] := by
  induction xs with
  | nil => rfl
  | cons x xs ih => simp [blL, h x List.mem_cons_self, ih fun y hy => h y (List.mem_cons_of_mem _ hy)]
theorem blL_app (xs ys : List AV) : blL (xs ++ ys) = blL xs ++ blL ys := by
  induction xs with
  | nil => rfl
  | cons x xs ih => simp [blL, ih]
/-- the heap holds the tree -/
def Holds (H : Hp) (x : AV) : Prop := ∀ p ∈ bl x, H p.1 = some p.2
def treeH (x : AV) : Hp := fun q => (bl x).lookup q
theorem lookup_mem {l : List (Nat × Blk)} {q : Nat} {k : Blk} (h : l.lookup q = some k) : (q, k) ∈ l := by
  induction l with
  | nil => cases h
  | cons p l ih =>
    obtain ⟨d, b⟩ := p
    simp only [List.lookup] at h
    split at h
    · rename_i he
      obtain rfl : q = d := by simpa using he
      obtain rfl := Option.some.inj h
      exact List.mem_cons_self
    · exact List.mem_cons_of_mem _ (ih h)
theorem mem_lookup {l : List (Nat × Blk)} (hn : (l.map (·.1)).Nodup) {p : Nat × Blk} (h : p ∈ l) : l.lookup p.1 = some p.2 := by
  induction l with
  | nil => cases h
  | cons a l ih =>
    obtain ⟨d, b⟩ := a
    simp only [List.map_cons, List.nodup_cons] at hn
    simp only [List.lookup]
    rcases List.mem_cons.1 h with rfl | h
    · simp
    · have hne : ¬ p.1 = d := fun e => hn.1 (e ▸ List.mem_map.2 ⟨p, h, rfl⟩)
      have : (p.1 == d) = false := by simpa using hne
      rw [this]
      exact ih hn.2 h
theorem treeH_holds {x : AV} (h : tok x = true) (hn : (tags x).Nodup) : Holds (treeH x) x := fun p hp => mem_lookup (by rw [(bl_fst x h).1]; exact hn) hp
theorem treeH_fz {x : AV} : ∀ d k, treeH x d = some k → k.fz = false := fun d k h => by
  exact bl_fz x _ (lookup_mem h)

theorem callm_all {l : FuncId → Law} {m : FuncId → LawM} {gh : Env → Hp → Nat → Env → Hp → Prop} {g : FuncId} {args : List AV} {H : Hp} {n : Nat} {C : Nat → Nat → AV → Hp → Prop} {R : Nat → Nat → AV → Hp → Prop} (h : m g args H R) (hf : ∀ d k, H d = some k → k.fz = false)
    (hk : ∀ lo hi r H', n ≤ lo → lo ≤ hi → R lo hi r H' → C lo hi r H') : bcallm ⟨l, m, gh⟩ g args H n C := by
  have e1 : givenH (fun _ => true) H = H := by funext d; simp [givenH]
  refine ⟨fun _ => true, R, by rw [e1]; exact h, fun d k _ hd => hf d k hd, fun lo hi r H' g1 g2 hr => ⟨fun _ _ _ => rfl, ?_⟩⟩
  have e2 : backH (fun _ => true) H H' = H' := by funext d; simp [backH]
  rw [e2]
  exact hk lo hi r H' g1 g2 hr
/-- a tree is taken over; nothing else may be written from here on; of the other values those in kp are kept -/
theorem gh_tree {l : FuncId → Law} {m : FuncId → LawM} {lo nt n : Nat} {E : Env} {H : Hp} {C : Env → Hp → Prop} (t : Nat) (kp : List Nat) {x : AV} (hx : tok x = true) (ht : t < nt) (hE : E t = x) (hz : x.sz ≠ 0) (hlo : ∀ b ∈ tags x, lo ≤ b)
    (hkp : ∀ q ∈ kp, Av (fun b => b ∈ tags x) (E q)) (hk : C (fun q => if q = t then ow x else if q ∈ kp then E q else .undef) (treeH x)) : bgh ⟨l, m, GH lo nt⟩ E H n C := by
  refine ghost_rule (L := ⟨l, m, GH lo nt⟩) _ (treeH x) ?_ hk
  intro w0 S a w hlo0 hsr
  have h0 := hsr.sub (H1 := fun _ => none) (fun d k h => by cases h)
  obtain ⟨h1, h2⟩ := bl_fst x hx
  have hmem : ∀ p ∈ bl x, p.2.b ∈ tags x := fun p hp => by rw [h2 p hp, ← h1]; exact List.mem_map.2 ⟨p, hp, rfl⟩
  have hTw : Tw (fun b => b ∈ tags x) [x] [ow x] (bl x) := by
    have := tw1 (B := fun b => b ∈ tags x) x hx [] [] [] .nil
    rwa [List.append_nil] at this
  refine thaw (fun b => b ∈ tags x) [x] [ow x] (bl x) [t] hTw rfl ?_ (fun p hp => ⟨hmem p hp, hlo _ (hmem p hp)⟩) (fun p hp q hq e => by rw [h2 p hp, h2 q hq] at e; exact e) (fun d k h => by cases h) ?_ (fun d k h => .inl (lookup_mem h)) w0 S a w hlo0 h0
  · rintro (_ | i) t' x' g1 g2
    · obtain rfl : t = t' := by simpa using g1
      obtain rfl : x = x' := by simpa using g2
      exact ⟨ht, hE, hz⟩
    · simp at g1
  · intro t' _
    by_cases h : t' = t
    · subst h
      exact .inr (.inr ⟨0, rfl, by simp⟩)
    · by_cases h2 : t' ∈ kp
      · exact .inr (.inl ⟨by simp [h, h2], hkp t' h2⟩)
      · exact .inl (by simp [h, h2])
/-- a state told by a list -/
def envL : List (Nat × AV) → Env
  | [] => fun _ => .undef
  | (a, v) :: l => fun q => if q = a then v else envL l q
theorem envL_cons (a : Nat) (v : AV) (l : List (Nat × AV)) (q : Nat) : envL ((a, v) :: l) q = if q = a then v else envL l q := Eq.trans rfl rfl
theorem envL_nil (q : Nat) : envL [] q = .undef := Eq.trans rfl rfl
inductive KPs (E : Env) (B : Nat → Prop) : List (Nat × AV) → Prop
  | nil : KPs E B []
  | cons {a : Nat} {v : AV} {l : List (Nat × AV)} (h : E a = v) (hv : Av B v) (hl : KPs E B l) : KPs E B ((a, v) :: l)
theorem KPs.get {E : Env} {B : Nat → Prop} {l : List (Nat × AV)} (h : KPs E B l) (q : Nat) : envL l q = .undef ∨ (envL l q = E q ∧ Av B (E q)) := by
  induction h with
  | nil => exact .inl rfl
  | cons h hv hl ih =>
    rw [envL_cons]
    split
    · rename_i hq
      subst hq
      exact .inr ⟨h.symm, by rw [h]; exact hv⟩
    · exact ih
theorem gh_treeL {l : FuncId → Law} {m : FuncId → LawM} {lo nt n : Nat} {E : Env} {H : Hp} {C : Env → Hp → Prop} (t : Nat) (kp : List (Nat × AV)) {x : AV} (hx : tok x = true) (ht : t < nt) (hE : E t = x) (hz : x.sz ≠ 0) (hlo : ∀ b ∈ tags x, lo ≤ b)
    (hkp : KPs E (fun b => b ∈ tags x) kp) (hk : C (envL ((t, ow x) :: kp)) (treeH x)) : bgh ⟨l, m, GH lo nt⟩ E H n C := by
  refine ghost_rule (L := ⟨l, m, GH lo nt⟩) _ (treeH x) ?_ hk
  intro w0 S a w hlo0 hsr
  have h0 := hsr.sub (H1 := fun _ => none) (fun d k h => by cases h)
  obtain ⟨h1, h2⟩ := bl_fst x hx
  have hmem : ∀ p ∈ bl x, p.2.b ∈ tags x := fun p hp => by rw [h2 p hp, ← h1]; exact List.mem_map.2 ⟨p, hp, rfl⟩
  have hTw : Tw (fun b => b ∈ tags x) [x] [ow x] (bl x) := by
    have := tw1 (B := fun b => b ∈ tags x) x hx [] [] [] .nil
    rwa [List.append_nil] at this
  refine thaw (fun b => b ∈ tags x) [x] [ow x] (bl x) [t] hTw rfl ?_ (fun p hp => ⟨hmem p hp, hlo _ (hmem p hp)⟩) (fun p hp q hq e => by rw [h2 p hp, h2 q hq] at e; exact e) (fun d k h => by cases h) ?_ (fun d k h => .inl (lookup_mem h)) w0 S a w hlo0 h0
  · rintro (_ | i) t' x' g1 g2
    · obtain rfl : t = t' := by simpa using g1
      obtain rfl : x = x' := by simpa using g2
      exact ⟨ht, hE, hz⟩
    · simp at g1
  · intro t' _
    rw [envL_cons]
    by_cases h : t' = t
    · subst h
      exact .inr (.inr ⟨0, rfl, by simp⟩)
    · rw [if_neg h]
      rcases hkp.get t' with h | ⟨h1, h2⟩
      · exact .inl h
      · exact .inr (.inl ⟨h1, h2⟩)
end Go.AVM

/- The law's helpers for lists of structs: one text for all kinds, and what it gives. -/
namespace Go.AVM
set_option linter.unusedSimpArgs false
set_option linter.unusedVariables false
def gSz (s fT : Nat) : VFn := ⟨2, 27, [.tmp 4], (.seq (.reg [⟨none, .mv 4 (.c (.int .i64 0))⟩] [0]) (.seq (.reg [⟨none, .mv 6 (.t 1)⟩,
  ⟨none, .mv 7 (.t 0)⟩,
  ⟨none, .len 8 false (.t 7)⟩,
  ⟨none, .bin 9 .sub (.t 6) (.t 8)⟩,
  ⟨none, .mv 1 (.t 9)⟩] [0, 1, 2, 3, 4]) (.seq (.seq (.reg [⟨none, .mv 10 (.t 1)⟩,
  ⟨none, .bin 11 .lss (.t 10) (.c (.int .i64 0))⟩] [0, 1]) (.cond (.t 11) (.seq (.reg [⟨none, .mv 4 (.c (.int .i64 (-1)))⟩] [0]) .ret) .skip)) (.seq (.seq (.reg [⟨none, .mv 5 (.c (.int .i64 0))⟩] [0]) (.block 0 (.loop (.seq (.seq (.reg [⟨none, .mv 12 (.t 5)⟩,
  ⟨none, .mv 13 (.t 0)⟩,
  ⟨none, .len 14 false (.t 13)⟩,
  ⟨none, .bin 15 .lss (.t 12) (.t 14)⟩] [0, 1, 2, 3]) (.cond (.t 15) .skip (.exit 0))) (.seq (.block 1 (.seq (.reg [⟨none, .mv 18 (.t 0)⟩,
  ⟨none, .mv 19 (.t 5)⟩,
  ⟨none, .idxA 20 s (.t 18) (.t 19)⟩,
  ⟨none, .ld 21 (.t 20) (some s)⟩,
  ⟨none, .mv 22 (.t 1)⟩,
  ⟨none, .call 23 (.c (.fn fT [])) [.t 21, .t 22] false false⟩,
  ⟨none, .mv 1 (.t 23)⟩] [0, 1, 2, 3, 4, 5, 6]) (.seq (.reg [⟨none, .mv 24 (.t 1)⟩,
  ⟨none, .bin 25 .lss (.t 24) (.c (.int .i64 0))⟩] [0, 1]) (.cond (.t 25) (.seq (.reg [⟨none, .mv 4 (.c (.int .i64 (-1)))⟩] [0]) .ret) .skip)))) (.reg [⟨none, .mv 16 (.t 5)⟩,
  ⟨none, .bin 17 .add (.t 16) (.c (.int .i64 1))⟩,
  ⟨none, .mv 5 (.t 17)⟩] [0, 1, 2])))))) (.seq (.reg [⟨none, .mv 26 (.t 1)⟩,
  ⟨none, .mv 4 (.t 26)⟩] [0, 1]) .ret)))))⟩
def gTo (s bytes fT fF fR : Nat) (z : AV) : VFn := ⟨2, 52, [.tmp 4], (.seq (.reg [⟨none, .mv 4 (.c .emp)⟩] [0]) (.seq (.seq (.reg [⟨none, .mv 8 (.t 1)⟩,
  ⟨none, .mv 9 (.t 8)⟩,
  ⟨some (9, true), .mv 10 (.t 0)⟩,
  ⟨some (9, true), .len 11 false (.t 10)⟩,
  ⟨some (9, true), .bin 12 .eql (.t 11) (.c (.int .i64 0))⟩,
  ⟨none, .pick 13 (.t 9) (.t 12) (.c (.bool false))⟩] [0, 1, 2, 3, 4, 5]) (.cond (.t 13) (.seq (.reg [⟨none, .mv 4 (.c .emp)⟩] [0]) .ret) .skip)) (.seq (.reg [⟨none, .mv 14 (.t 0)⟩,
  ⟨none, .len 15 false (.t 14)⟩,
  ⟨none, .mv 16 (.t 0)⟩,
  ⟨none, .len 17 false (.t 16)⟩,
  ⟨none, .call 18 (.c (.fn fR [])) [.t 17] false false⟩,
  ⟨none, .bin 19 .add (.t 15) (.t 18)⟩,
  ⟨none, .mks 20 s (.t 19) z bytes⟩,
  ⟨none, .mv 5 (.t 20)⟩] [0, 1, 2, 3, 4, 5, 6, 7]) (.seq (.seq (.reg [⟨none, .mv 6 (.c (.int .i64 0))⟩] [0]) (.block 0 (.loop (.seq (.seq (.reg [⟨none, .mv 21 (.t 6)⟩,
  ⟨none, .mv 22 (.t 0)⟩,
  ⟨none, .len 23 false (.t 22)⟩,
  ⟨none, .bin 24 .lss (.t 21) (.t 23)⟩] [0, 1, 2, 3]) (.cond (.t 24) .skip (.exit 0))) (.seq (.block 1 (.reg [⟨none, .mv 27 (.t 5)⟩,
  ⟨none, .mv 28 (.t 6)⟩,
  ⟨none, .mv 29 (.t 0)⟩,
  ⟨none, .mv 30 (.t 6)⟩,
  ⟨none, .idxA 31 s (.t 29) (.t 30)⟩,
  ⟨none, .ld 32 (.t 31) (some s)⟩,
  ⟨none, .mv 33 (.t 1)⟩,
  ⟨none, .call 34 (.c (.fn fT [])) [.t 32, .t 33] false false⟩,
  ⟨none, .idxA 35 s (.t 27) (.t 28)⟩,
  ⟨none, .st (.t 35) (.t 34) (some s)⟩] [0, 1, 2, 3, 4, 5, 6, 7, 8, 9])) (.reg [⟨none, .mv 25 (.t 6)⟩,
  ⟨none, .bin 26 .add (.t 25) (.c (.int .i64 1))⟩,
  ⟨none, .mv 6 (.t 26)⟩] [0, 1, 2])))))) (.seq (.seq (.reg [⟨none, .mv 36 (.t 0)⟩,
  ⟨none, .len 37 false (.t 36)⟩,
  ⟨none, .mv 7 (.t 37)⟩] [0, 1, 2]) (.block 2 (.loop (.seq (.seq (.reg [⟨none, .mv 38 (.t 7)⟩,
  ⟨none, .mv 39 (.t 5)⟩,
  ⟨none, .len 40 false (.t 39)⟩,
  ⟨none, .bin 41 .lss (.t 38) (.t 40)⟩] [0, 1, 2, 3]) (.cond (.t 41) .skip (.exit 2))) (.seq (.block 3 (.reg [⟨none, .mv 44 (.t 5)⟩,
  ⟨none, .mv 45 (.t 7)⟩,
  ⟨none, .call 46 (.c (.fn fF [])) [] false false⟩,
  ⟨none, .idxA 47 s (.t 44) (.t 45)⟩,
  ⟨none, .st (.t 47) (.t 46) (some s)⟩] [0, 1, 2, 3, 4])) (.reg [⟨none, .mv 42 (.t 7)⟩,
  ⟨none, .bin 43 .add (.t 42) (.c (.int .i64 1))⟩,
  ⟨none, .mv 7 (.t 43)⟩] [0, 1, 2])))))) (.seq (.reg [⟨none, .mv 48 (.t 5)⟩,
  ⟨none, .mv 49 (.t 0)⟩,
  ⟨none, .len 50 false (.t 49)⟩,
  ⟨none, .slc 51 s (.t 48) none (some (.t 50))⟩,
  ⟨none, .mv 4 (.t 51)⟩] [0, 1, 2, 3, 4]) .ret))))))⟩
def gIn (s fI fE fR : Nat) : VFn := ⟨2, 45, [.tmp 4], (.seq (.reg [⟨none, .mv 4 (.c (.bool false))⟩] [0]) (.seq (.reg [⟨none, .mv 7 (.t 1)⟩,
  ⟨none, .len 8 false (.t 7)⟩,
  ⟨none, .mv 9 (.t 1)⟩,
  ⟨none, .len 10 false (.t 9)⟩,
  ⟨none, .call 11 (.c (.fn fR [])) [.t 10] false false⟩,
  ⟨none, .bin 12 .add (.t 8) (.t 11)⟩,
  ⟨none, .mv 5 (.t 12)⟩] [0, 1, 2, 3, 4, 5, 6]) (.seq (.seq (.reg [⟨none, .mv 13 (.t 0)⟩,
  ⟨none, .len 14 false (.t 13)⟩,
  ⟨none, .mv 15 (.t 1)⟩,
  ⟨none, .len 16 false (.t 15)⟩,
  ⟨none, .bin 17 .neq (.t 14) (.t 16)⟩] [0, 1, 2, 3, 4]) (.cond (.t 17) (.seq (.reg [⟨none, .mv 4 (.c (.bool false))⟩] [0]) .ret) .skip)) (.seq (.seq (.reg [⟨none, .mv 6 (.c (.int .i64 0))⟩] [0]) (.block 0 (.loop (.seq (.seq (.reg [⟨none, .mv 18 (.t 6)⟩,
  ⟨none, .mv 19 (.t 1)⟩,
  ⟨none, .len 20 false (.t 19)⟩,
  ⟨none, .bin 21 .lss (.t 18) (.t 20)⟩] [0, 1, 2, 3]) (.cond (.t 21) .skip (.exit 0))) (.seq (.block 1 (.seq (.reg [⟨none, .mv 24 (.t 0)⟩,
  ⟨none, .mv 25 (.t 6)⟩,
  ⟨none, .idxA 26 s (.t 24) (.t 25)⟩,
  ⟨none, .ld 27 (.t 26) (some s)⟩,
  ⟨none, .mv 28 (.t 1)⟩,
  ⟨none, .mv 29 (.t 6)⟩,
  ⟨none, .idxA 30 s (.t 28) (.t 29)⟩,
  ⟨none, .ld 31 (.t 30) (some s)⟩,
  ⟨none, .call 32 (.c (.fn fI [])) [.t 27, .t 31] false true⟩,
  ⟨none, .not 33 (.t 32)⟩] [0, 1, 2, 3, 4, 5, 6, 7, 8, 9]) (.cond (.t 33) (.seq (.reg [⟨none, .mv 4 (.c (.bool false))⟩] [0]) .ret) .skip))) (.reg [⟨none, .mv 22 (.t 6)⟩,
  ⟨none, .bin 23 .add (.t 22) (.c (.int .i64 1))⟩,
  ⟨none, .mv 6 (.t 23)⟩] [0, 1, 2])))))) (.seq (.reg [⟨none, .mv 34 (.t 0)⟩,
  ⟨none, .mv 35 (.t 1)⟩,
  ⟨none, .len 36 false (.t 35)⟩,
  ⟨none, .mv 37 (.t 5)⟩,
  ⟨none, .slc 38 s (.t 34) (some (.t 36)) (some (.t 37))⟩,
  ⟨none, .mv 39 (.t 1)⟩,
  ⟨none, .mv 40 (.t 1)⟩,
  ⟨none, .len 41 false (.t 40)⟩,
  ⟨none, .mv 42 (.t 5)⟩,
  ⟨none, .slc 43 s (.t 39) (some (.t 41)) (some (.t 42))⟩,
  ⟨none, .call 44 (.c (.fn fE [])) [.t 38, .t 43] false false⟩,
  ⟨none, .mv 4 (.t 44)⟩] [0, 1, 2, 3, 4, 5, 6, 7, 8, 9, 10, 11]) .ret)))))⟩
def gEq (s fE : Nat) : VFn := ⟨2, 27, [.tmp 4], (.seq (.reg [⟨none, .mv 4 (.c (.bool false))⟩] [0]) (.seq (.seq (.reg [⟨none, .mv 6 (.t 0)⟩,
  ⟨none, .len 7 false (.t 6)⟩,
  ⟨none, .mv 8 (.t 1)⟩,
  ⟨none, .len 9 false (.t 8)⟩,
  ⟨none, .bin 10 .neq (.t 7) (.t 9)⟩] [0, 1, 2, 3, 4]) (.cond (.t 10) (.seq (.reg [⟨none, .mv 4 (.c (.bool false))⟩] [0]) .ret) .skip)) (.seq (.seq (.reg [⟨none, .mv 5 (.c (.int .i64 0))⟩] [0]) (.block 0 (.loop (.seq (.seq (.reg [⟨none, .mv 11 (.t 5)⟩,
  ⟨none, .mv 12 (.t 0)⟩,
  ⟨none, .len 13 false (.t 12)⟩,
  ⟨none, .bin 14 .lss (.t 11) (.t 13)⟩] [0, 1, 2, 3]) (.cond (.t 14) .skip (.exit 0))) (.seq (.block 1 (.seq (.reg [⟨none, .mv 17 (.t 0)⟩,
  ⟨none, .mv 18 (.t 5)⟩,
  ⟨none, .idxA 19 s (.t 17) (.t 18)⟩,
  ⟨none, .ld 20 (.t 19) (some s)⟩,
  ⟨none, .mv 21 (.t 1)⟩,
  ⟨none, .mv 22 (.t 5)⟩,
  ⟨none, .idxA 23 s (.t 21) (.t 22)⟩,
  ⟨none, .ld 24 (.t 23) (some s)⟩,
  ⟨none, .call 25 (.c (.fn fE [])) [.t 20, .t 24] false false⟩,
  ⟨none, .not 26 (.t 25)⟩] [0, 1, 2, 3, 4, 5, 6, 7, 8, 9]) (.cond (.t 26) (.seq (.reg [⟨none, .mv 4 (.c (.bool false))⟩] [0]) .ret) .skip))) (.reg [⟨none, .mv 15 (.t 5)⟩,
  ⟨none, .bin 16 .add (.t 15) (.c (.int .i64 1))⟩,
  ⟨none, .mv 5 (.t 16)⟩] [0, 1, 2])))))) (.seq (.reg [⟨none, .mv 4 (.c (.bool true))⟩] [0]) .ret))))⟩
def rm (n : Nat) : Nat := if n % 6 = 5 then 0 else if n % 3 = 0 then 1 else n
theorem rm_le (k : Nat) : rm k ≤ k + 1 := by
  unfold rm
  split
  · omega
  · split <;> omega
/-- how elements of a kind are told -/
structure El {α : Type} (s : Nat) (e : α → AV) : Prop where
  agg : ∀ x, ∃ fs, e x = .agg fs ∧ fs.length = s
  rd : ∀ H x, rd3o false H (e x) = some (e x, [])
def lv {α : Type} (e : α → AV) (xs : List α) : AV := .lsl none xs.length (xs.map e)
section
variable {α : Type} {s : Nat} {e : α → AV}
theorem x_lv (he : El s e) (xs : List α) (i : Nat) (h : i < xs.length) : idxAv s (lv e xs) (.int .i64 i) = some (.lptr (e xs[i])) := by
  obtain ⟨fs, h1, h2⟩ := he.agg xs[i]
  simp [idxAv, lv, h, h1, AV.sz, h2]
theorem d_lv (he : El s e) (H : Hp) (x : α) : ldv H (some s) (.lptr (e x)) = some (e x) := by
  obtain ⟨fs, h1, h2⟩ := he.agg x
  simp [ldv, h1, fitsz, h2]
theorem l_lv (xs : List α) : lenv false (lv e xs) = some xs.length := Eq.trans rfl rfl
theorem rd_lv (H : Hp) (xs : List α) : rd3o false H (lv e xs) = some (lv e xs, []) := by
  have h1 : (xs.map e).take xs.length = xs.map e := List.take_of_length_le (by simp)
  simp [lv, rd3o, rd2o, rdpo, rd1o, h1]
end

theorem g_eq {P : Program} {f s fE : Nat} (hk : chkFn P f (gEq s fE) = true) {α : Type} [DecidableEq α] {e : α → AV} (he : El s e) (xs ys : List α) (hx : xs.length ≤ 10000000) (hE : ∀ x ∈ xs, ∀ y ∈ ys, OK P fE [e x, e y] (fun _ _ r => r = .bool (decide (x = y)))) :
    OK P f [lv e xs, lv e ys] (fun _ _ r => r = .bool (decide (xs = ys))) := by
  refine fn_ok hk rfl ?_
  generalize OK P = L at *
  intro lo
  by_cases hl : (xs.length : Int) = ys.length
  · have hl' : xs.length = ys.length := by omega
    simp -dsimp only [↓SD, SP, ↓reduceIte, Nat.reduceEqDiff, ini, frz, rdAo, rd3o, rd2o, rdpo, rd1o, fnv, intv, VOp.dst, getRo, solEo, solo, solo1, allsz, List.all_cons, List.all_nil, Bool.and_true, beq_self_eq_true, List.length_cons, List.length_nil, Nat.zero_add, srcv, Nat.le_refl, List.take_succ_cons, List.take_zero, and_self, if_true, Nat.reduceAdd, Nat.reduceLT, eq_self, gEq, l_lv, hl]
    refine loop_rule (fun m E H n => ∃ i : Nat, m + i = xs.length ∧ E 0 = lv e xs ∧ E 1 = lv e ys ∧ E 5 = .int .i64 i ∧ xs.take i = ys.take i)
      (fun e E H n => (e = .exit 0 ∧ xs = ys) ∨ (e = .ret ∧ E 4 = .bool false ∧ xs ≠ ys)) xs.length ⟨0, rfl, rfl, rfl, rfl, rfl⟩ ?_ ?_
    · rintro e E H n (⟨rfl, rfl⟩ | ⟨rfl, h2, h3⟩)
      · simp -dsimp only [↓SD, SP, ↓reduceIte, Nat.reduceEqDiff, ini, frz, rdAo, rd3o, rd2o, rdpo, rd1o, fnv, intv, VOp.dst, getRo, solEo, solo, solo1, allsz, List.all_cons, List.all_nil, Bool.and_true, beq_self_eq_true, List.length_cons, List.length_nil, Nat.zero_add, srcv, Nat.le_refl, List.take_succ_cons, List.take_zero, and_self, if_true, Nat.reduceAdd, Nat.reduceLT, eq_self]
      · simp -dsimp only [↓SD, SP, ↓reduceIte, Nat.reduceEqDiff, ini, frz, rdAo, rd3o, rd2o, rdpo, rd1o, fnv, intv, VOp.dst, getRo, solEo, solo, solo1, allsz, List.all_cons, List.all_nil, Bool.and_true, beq_self_eq_true, List.length_cons, List.length_nil, Nat.zero_add, srcv, Nat.le_refl, List.take_succ_cons, List.take_zero, and_self, if_true, Nat.reduceAdd, Nat.reduceLT, eq_self, h2]
        simp [h3]
    · rintro m E H n Q K ⟨i, hm, h0, h1, h5, hp⟩ hQ hK
      by_cases hi : i < xs.length
      · have hj : i < ys.length := by omega
        simp -dsimp only [↓SD, SP, ↓reduceIte, Nat.reduceEqDiff, ini, frz, rdAo, rd3o, rd2o, rdpo, rd1o, fnv, intv, VOp.dst, getRo, solEo, solo, solo1, allsz, List.all_cons, List.all_nil, Bool.and_true, beq_self_eq_true, List.length_cons, List.length_nil, Nat.zero_add, srcv, Nat.le_refl, List.take_succ_cons, List.take_zero, and_self, if_true, Nat.reduceAdd, Nat.reduceLT, eq_self, h0, h1, h5, l_lv, Int.ofNat_lt, hi, x_lv he _ _ hi, x_lv he _ _ hj, ↓d_lv he, ↓he.rd, ↓r_any]
        refine call_rule (hE xs[i] (List.getElem_mem hi) ys[i] (List.getElem_mem hj)) ?_
        rintro lo1 hi1 r - - rfl
        by_cases hxy : xs[i] = ys[i]
        · simp -dsimp only [↓SD, SP, ↓reduceIte, Nat.reduceEqDiff, ini, frz, rdAo, rd3o, rd2o, rdpo, rd1o, fnv, intv, VOp.dst, getRo, solEo, solo, solo1, allsz, List.all_cons, List.all_nil, Bool.and_true, beq_self_eq_true, List.length_cons, List.length_nil, Nat.zero_add, srcv, Nat.le_refl, List.take_succ_cons, List.take_zero, and_self, if_true, Nat.reduceAdd, Nat.reduceLT, eq_self, hxy, ↓r_any, h5, wrap64 ((i : Int) + 1) (by omega)]
          refine hK (m - 1) _ _ _ (by omega) ⟨i + 1, by omega, ?_, ?_, ?_, ?_⟩
          · simp -dsimp only [↓SD, SP, ↓reduceIte, Nat.reduceEqDiff, ini, frz, rdAo, rd3o, rd2o, rdpo, rd1o, fnv, intv, VOp.dst, getRo, solEo, solo, solo1, allsz, List.all_cons, List.all_nil, Bool.and_true, beq_self_eq_true, List.length_cons, List.length_nil, Nat.zero_add, srcv, Nat.le_refl, List.take_succ_cons, List.take_zero, and_self, if_true, Nat.reduceAdd, Nat.reduceLT, eq_self, h0]
          · simp -dsimp only [↓SD, SP, ↓reduceIte, Nat.reduceEqDiff, ini, frz, rdAo, rd3o, rd2o, rdpo, rd1o, fnv, intv, VOp.dst, getRo, solEo, solo, solo1, allsz, List.all_cons, List.all_nil, Bool.and_true, beq_self_eq_true, List.length_cons, List.length_nil, Nat.zero_add, srcv, Nat.le_refl, List.take_succ_cons, List.take_zero, and_self, if_true, Nat.reduceAdd, Nat.reduceLT, eq_self, h1]
          · simp -dsimp only [↓SD, SP, ↓reduceIte, Nat.reduceEqDiff, ini, frz, rdAo, rd3o, rd2o, rdpo, rd1o, fnv, intv, VOp.dst, getRo, solEo, solo, solo1, allsz, List.all_cons, List.all_nil, Bool.and_true, beq_self_eq_true, List.length_cons, List.length_nil, Nat.zero_add, srcv, Nat.le_refl, List.take_succ_cons, List.take_zero, and_self, if_true, Nat.reduceAdd, Nat.reduceLT, eq_self, Int.natCast_add, Int.natCast_one]
          · rw [List.take_succ_eq_append_getElem hi, List.take_succ_eq_append_getElem hj, hp, hxy]
        · simp -dsimp only [↓SD, SP, ↓reduceIte, Nat.reduceEqDiff, ini, frz, rdAo, rd3o, rd2o, rdpo, rd1o, fnv, intv, VOp.dst, getRo, solEo, solo, solo1, allsz, List.all_cons, List.all_nil, Bool.and_true, beq_self_eq_true, List.length_cons, List.length_nil, Nat.zero_add, srcv, Nat.le_refl, List.take_succ_cons, List.take_zero, and_self, if_true, Nat.reduceAdd, Nat.reduceLT, eq_self, hxy, ↓r_any]
          refine hQ _ _ _ _ (.inr ⟨rfl, ?_, fun e => hxy (by subst e; rfl)⟩)
          simp -dsimp only [↓SD, SP, ↓reduceIte, Nat.reduceEqDiff, ini, frz, rdAo, rd3o, rd2o, rdpo, rd1o, fnv, intv, VOp.dst, getRo, solEo, solo, solo1, allsz, List.all_cons, List.all_nil, Bool.and_true, beq_self_eq_true, List.length_cons, List.length_nil, Nat.zero_add, srcv, Nat.le_refl, List.take_succ_cons, List.take_zero, and_self, if_true, Nat.reduceAdd, Nat.reduceLT, eq_self]
      · simp -dsimp only [↓SD, SP, ↓reduceIte, Nat.reduceEqDiff, ini, frz, rdAo, rd3o, rd2o, rdpo, rd1o, fnv, intv, VOp.dst, getRo, solEo, solo, solo1, allsz, List.all_cons, List.all_nil, Bool.and_true, beq_self_eq_true, List.length_cons, List.length_nil, Nat.zero_add, srcv, Nat.le_refl, List.take_succ_cons, List.take_zero, and_self, if_true, Nat.reduceAdd, Nat.reduceLT, eq_self, h0, h1, h5, l_lv, Int.ofNat_lt, hi]
        refine hQ _ _ _ _ (.inl ⟨rfl, ?_⟩)
        rwa [List.take_of_length_le (by omega), List.take_of_length_le (by omega)] at hp
  · simp -dsimp only [↓SD, SP, ↓reduceIte, Nat.reduceEqDiff, ini, frz, rdAo, rd3o, rd2o, rdpo, rd1o, fnv, intv, VOp.dst, getRo, solEo, solo, solo1, allsz, List.all_cons, List.all_nil, Bool.and_true, beq_self_eq_true, List.length_cons, List.length_nil, Nat.zero_add, srcv, Nat.le_refl, List.take_succ_cons, List.take_zero, and_self, if_true, Nat.reduceAdd, Nat.reduceLT, eq_self, gEq, l_lv, hl]
    simp [show xs ≠ ys from fun e => hl (by rw [e])]

theorem g_sz {P : Program} {f s fT : Nat} (hk : chkFn P f (gSz s fT) = true) {α : Type} {e : α → AV} (he : El s e) (ok : α → Prop) (xs : List α) (k : Nat) (hkk : k ≤ 1000000) (hx : xs.length ≤ 9223372036854775807)
    (hT : ∀ x ∈ xs, ∀ k : Nat, k ≤ 1000000 → OK P fT [e x, .int .i64 k] (fun _ _ r => ∃ i : Int, r = .int .i64 i ∧ (0 ≤ i → ok x ∧ ∃ k' : Nat, i = k' ∧ k' ≤ k))) :
    OK P f [lv e xs, .int .i64 k] (fun _ _ r => ∃ i : Int, r = .int .i64 i ∧ (0 ≤ i → (xs.length ≤ 1000000 ∧ ∀ x ∈ xs, ok x) ∧ ∃ k' : Nat, i = k' ∧ k' ≤ k)) := by
  refine fn_ok hk rfl ?_
  generalize OK P = L at *
  intro lo
  by_cases hl : (k : Int) - xs.length < 0
  · simp -dsimp only [↓SD, SP, ↓reduceIte, Nat.reduceEqDiff, ini, frz, rdAo, rd3o, rd2o, rdpo, rd1o, fnv, intv, VOp.dst, getRo, solEo, solo, solo1, allsz, List.all_cons, List.all_nil, Bool.and_true, beq_self_eq_true, List.length_cons, List.length_nil, Nat.zero_add, srcv, Nat.le_refl, List.take_succ_cons, List.take_zero, and_self, if_true, Nat.reduceAdd, Nat.reduceLT, eq_self, gSz, l_lv, wrap64 ((k : Int) - xs.length) (by omega), hl]
    exact ⟨_, rfl, by omega⟩
  · simp -dsimp only [↓SD, SP, ↓reduceIte, Nat.reduceEqDiff, ini, frz, rdAo, rd3o, rd2o, rdpo, rd1o, fnv, intv, VOp.dst, getRo, solEo, solo, solo1, allsz, List.all_cons, List.all_nil, Bool.and_true, beq_self_eq_true, List.length_cons, List.length_nil, Nat.zero_add, srcv, Nat.le_refl, List.take_succ_cons, List.take_zero, and_self, if_true, Nat.reduceAdd, Nat.reduceLT, eq_self, gSz, l_lv, wrap64 ((k : Int) - xs.length) (by omega), hl]
    refine loop_rule (fun m E H n => ∃ (i : Nat) (v : Nat), m + i = xs.length ∧ E 0 = lv e xs ∧ E 1 = .int .i64 v ∧ E 5 = .int .i64 i ∧ v ≤ k ∧ ∀ h ∈ xs.take i, ok h)
      (fun e E H n => (e = .exit 0 ∧ ∃ v : Nat, E 1 = .int .i64 v ∧ v ≤ k ∧ ∀ h ∈ xs, ok h) ∨ (e = .ret ∧ E 4 = .int .i64 (-1))) xs.length ⟨0, k - xs.length, rfl, rfl, ?_, rfl, by omega, by simp⟩ ?_ ?_
    · simp -dsimp only [↓SD, SP, ↓reduceIte, Nat.reduceEqDiff, ini, frz, rdAo, rd3o, rd2o, rdpo, rd1o, fnv, intv, VOp.dst, getRo, solEo, solo, solo1, allsz, List.all_cons, List.all_nil, Bool.and_true, beq_self_eq_true, List.length_cons, List.length_nil, Nat.zero_add, srcv, Nat.le_refl, List.take_succ_cons, List.take_zero, and_self, if_true, Nat.reduceAdd, Nat.reduceLT, eq_self, show ((k - xs.length : Nat) : Int) = (k : Int) - xs.length by omega]
    · rintro e E H n (⟨rfl, v, h1, h2, h3⟩ | ⟨rfl, h2⟩)
      · simp -dsimp only [↓SD, SP, ↓reduceIte, Nat.reduceEqDiff, ini, frz, rdAo, rd3o, rd2o, rdpo, rd1o, fnv, intv, VOp.dst, getRo, solEo, solo, solo1, allsz, List.all_cons, List.all_nil, Bool.and_true, beq_self_eq_true, List.length_cons, List.length_nil, Nat.zero_add, srcv, Nat.le_refl, List.take_succ_cons, List.take_zero, and_self, if_true, Nat.reduceAdd, Nat.reduceLT, eq_self, h1]
        exact ⟨_, rfl, fun _ => ⟨⟨by omega, h3⟩, v, rfl, h2⟩⟩
      · simp -dsimp only [↓SD, SP, ↓reduceIte, Nat.reduceEqDiff, ini, frz, rdAo, rd3o, rd2o, rdpo, rd1o, fnv, intv, VOp.dst, getRo, solEo, solo, solo1, allsz, List.all_cons, List.all_nil, Bool.and_true, beq_self_eq_true, List.length_cons, List.length_nil, Nat.zero_add, srcv, Nat.le_refl, List.take_succ_cons, List.take_zero, and_self, if_true, Nat.reduceAdd, Nat.reduceLT, eq_self, h2]
        exact ⟨_, rfl, by omega⟩
    · rintro m E H n Q K ⟨i, v, hm, h0, h1', h5, hv, hp⟩ hQ hK
      by_cases hi : i < xs.length
      · simp -dsimp only [↓SD, SP, ↓reduceIte, Nat.reduceEqDiff, ini, frz, rdAo, rd3o, rd2o, rdpo, rd1o, fnv, intv, VOp.dst, getRo, solEo, solo, solo1, allsz, List.all_cons, List.all_nil, Bool.and_true, beq_self_eq_true, List.length_cons, List.length_nil, Nat.zero_add, srcv, Nat.le_refl, List.take_succ_cons, List.take_zero, and_self, if_true, Nat.reduceAdd, Nat.reduceLT, eq_self, h0, h1', h5, l_lv, Int.ofNat_lt, hi, x_lv he _ _ hi, ↓d_lv he, ↓he.rd, ↓r_any]
        refine call_rule (hT xs[i] (List.getElem_mem hi) v (by omega)) ?_
        rintro lo1 hi1 r g1 g2 ⟨j, rfl, hj⟩
        by_cases hneg : j < 0
        · simp -dsimp only [↓SD, SP, ↓reduceIte, Nat.reduceEqDiff, ini, frz, rdAo, rd3o, rd2o, rdpo, rd1o, fnv, intv, VOp.dst, getRo, solEo, solo, solo1, allsz, List.all_cons, List.all_nil, Bool.and_true, beq_self_eq_true, List.length_cons, List.length_nil, Nat.zero_add, srcv, Nat.le_refl, List.take_succ_cons, List.take_zero, and_self, if_true, Nat.reduceAdd, Nat.reduceLT, eq_self, hneg, ↓r_any]
          exact hQ _ _ _ _ (.inr ⟨rfl, by simp -dsimp only [↓SD, SP, ↓reduceIte, Nat.reduceEqDiff, ini, frz, rdAo, rd3o, rd2o, rdpo, rd1o, fnv, intv, VOp.dst, getRo, solEo, solo, solo1, allsz, List.all_cons, List.all_nil, Bool.and_true, beq_self_eq_true, List.length_cons, List.length_nil, Nat.zero_add, srcv, Nat.le_refl, List.take_succ_cons, List.take_zero, and_self, if_true, Nat.reduceAdd, Nat.reduceLT, eq_self]⟩)
        · obtain ⟨ho, k1, rfl, hk1⟩ := hj (by omega)
          simp -dsimp only [↓SD, SP, ↓reduceIte, Nat.reduceEqDiff, ini, frz, rdAo, rd3o, rd2o, rdpo, rd1o, fnv, intv, VOp.dst, getRo, solEo, solo, solo1, allsz, List.all_cons, List.all_nil, Bool.and_true, beq_self_eq_true, List.length_cons, List.length_nil, Nat.zero_add, srcv, Nat.le_refl, List.take_succ_cons, List.take_zero, and_self, if_true, Nat.reduceAdd, Nat.reduceLT, eq_self, hneg, h5, wrap64 ((i : Int) + 1) (by omega), ↓r_any]
          refine hK (m - 1) _ _ _ (by omega) ⟨i + 1, k1, by omega, ?_, ?_, ?_, by omega, ?_⟩
          · simp -dsimp only [↓SD, SP, ↓reduceIte, Nat.reduceEqDiff, ini, frz, rdAo, rd3o, rd2o, rdpo, rd1o, fnv, intv, VOp.dst, getRo, solEo, solo, solo1, allsz, List.all_cons, List.all_nil, Bool.and_true, beq_self_eq_true, List.length_cons, List.length_nil, Nat.zero_add, srcv, Nat.le_refl, List.take_succ_cons, List.take_zero, and_self, if_true, Nat.reduceAdd, Nat.reduceLT, eq_self, h0]
          · simp -dsimp only [↓SD, SP, ↓reduceIte, Nat.reduceEqDiff, ini, frz, rdAo, rd3o, rd2o, rdpo, rd1o, fnv, intv, VOp.dst, getRo, solEo, solo, solo1, allsz, List.all_cons, List.all_nil, Bool.and_true, beq_self_eq_true, List.length_cons, List.length_nil, Nat.zero_add, srcv, Nat.le_refl, List.take_succ_cons, List.take_zero, and_self, if_true, Nat.reduceAdd, Nat.reduceLT, eq_self]
          · simp -dsimp only [↓SD, SP, ↓reduceIte, Nat.reduceEqDiff, ini, frz, rdAo, rd3o, rd2o, rdpo, rd1o, fnv, intv, VOp.dst, getRo, solEo, solo, solo1, allsz, List.all_cons, List.all_nil, Bool.and_true, beq_self_eq_true, List.length_cons, List.length_nil, Nat.zero_add, srcv, Nat.le_refl, List.take_succ_cons, List.take_zero, and_self, if_true, Nat.reduceAdd, Nat.reduceLT, eq_self, Int.natCast_add, Int.natCast_one]
          · intro h hh
            rw [List.take_succ_eq_append_getElem hi] at hh
            rcases List.mem_append.1 hh with hh | hh
            · exact hp h hh
            · obtain rfl := List.mem_singleton.1 hh
              exact ho
      · simp -dsimp only [↓SD, SP, ↓reduceIte, Nat.reduceEqDiff, ini, frz, rdAo, rd3o, rd2o, rdpo, rd1o, fnv, intv, VOp.dst, getRo, solEo, solo, solo1, allsz, List.all_cons, List.all_nil, Bool.and_true, beq_self_eq_true, List.length_cons, List.length_nil, Nat.zero_add, srcv, Nat.le_refl, List.take_succ_cons, List.take_zero, and_self, if_true, Nat.reduceAdd, Nat.reduceLT, eq_self, h0, h1', h5, l_lv, Int.ofNat_lt, hi]
        refine hQ _ _ _ _ (.inl ⟨rfl, v, h1', hv, ?_⟩)
        rwa [List.take_of_length_le (by omega)] at hp

/-- a list of structs that the law has made -/
def IsL {α : Type} (s : Nat) (Is : Nat → Nat → α → AV → Prop) (Fl : AV → Prop) (lo hi : Nat) (xs : List α) (bare : Bool) (r : AV) : Prop :=
  (xs = [] ∧ r = .emp ∧ bare = true) ∨ ∃ g rows, lo ≤ g ∧ g < hi ∧ r = .lsl (some (g, s)) xs.length rows ∧ rows.length = xs.length + rm xs.length ∧ Tin lo hi (g :: tagsL rows) ∧
    (∀ (i : Nat) (x : α) (y : AV), xs[i]? = some x → rows[i]? = some y → ∃ a b, Is a b x y) ∧ ∀ (i : Nat) (y : AV), xs.length ≤ i → rows[i]? = some y → Fl y
theorem set_next {α : Type} {xs : List α} {m : Nat} {z y : α} : (xs ++ List.replicate (m + 1) z).set xs.length y = (xs ++ [y]) ++ List.replicate m z := by
  rw [List.set_append_right _ _ (Nat.le_refl _), Nat.sub_self, List.replicate_succ, List.set_cons_zero, List.append_assoc]
  rfl
theorem tin_snoc {lo hi hi' a b g : Nat} {rows : List AV} {y : AV} (h : Tin lo hi (g :: tagsL rows)) (hy : Tin a b (tags y)) (h1 : hi ≤ a) (h2 : b ≤ hi') (h3 : lo ≤ a) (h4 : hi ≤ hi') : Tin lo hi' (g :: tagsL (rows ++ [y])) := by
  rw [tagsL_app]
  simp only [tagsL, List.append_nil]
  exact h.app (hy.mono (Nat.le_refl _) h2) h1 h3 h4

theorem g_to {P : Program} {f s bytes fT fF fR : Nat} {z : AV} (hk : chkFn P f (gTo s bytes fT fF fR z) = true) (hb : bytes ≤ 100000) (hs : 0 < s) {α : Type} {e : α → AV} (he : El s e) (Is : Nat → Nat → α → AV → Prop) (Fl : AV → Prop) (hIs : ∀ lo hi x r, Is lo hi x r → (∃ fs, r = .agg fs ∧ fs.length = s) ∧ Tin lo hi (tags r) ∧ ∀ H, solo H r = some (r, H))
    (hfl : ∀ r, Fl r → (∃ fs, r = .agg fs ∧ fs.length = s) ∧ ∀ H, solo H r = some (r, H)) (xs : List α) (bare : Bool) (hx : xs.length ≤ 1000000) (hR : ∀ k : Nat, k ≤ 1000000 → OK P fR [.int .i64 k] (fun _ _ r => r = .int .i64 (rm k)))
    (hT : ∀ x ∈ xs, OK P fT [e x, .bool bare] (fun lo hi r => Is lo hi x r)) (hF : OK P fF [] (fun lo hi r => Fl r ∧ Tin lo hi (tags r))) :
    OK P f [lv e xs, .bool bare] (fun lo hi r => IsL s Is Fl lo hi xs bare r) := by
  refine fn_ok hk rfl ?_
  have hR := hR xs.length hx
  generalize OK P = L at *
  intro lo
  have hrm := rm_le xs.length
  have hby : ((xs.length : Int) + rm xs.length) * bytes ≤ 140737488355328 := by
    have : (xs.length + rm xs.length) * bytes ≤ 2000001 * 100000 := Nat.mul_le_mul (by omega) hb
    have h2 : (((xs.length + rm xs.length) * bytes : Nat) : Int) ≤ ((2000001 * 100000 : Nat) : Int) := Int.ofNat_le.2 this
    rw [Int.natCast_mul, Int.natCast_add] at h2
    omega
  by_cases hemp : bare = true ∧ xs = []
  · obtain ⟨rfl, rfl⟩ := hemp
    simp -dsimp only [↓SD, SP, ↓reduceIte, Nat.reduceEqDiff, ini, frz, rdAo, rd3o, rd2o, rdpo, rd1o, fnv, intv, VOp.dst, getRo, solEo, solo, solo1, allsz, List.all_cons, List.all_nil, Bool.and_true, beq_self_eq_true, List.length_cons, List.length_nil, Nat.zero_add, srcv, Nat.le_refl, List.take_succ_cons, List.take_zero, and_self, if_true, Nat.reduceAdd, Nat.reduceLT, eq_self, gTo, l_lv, Int.natCast_zero]
    exact .inl ⟨rfl, rfl, rfl⟩
  have hc : bare = true → ¬ (xs.length : Int) = 0 := fun e h => hemp ⟨e, List.eq_nil_of_length_eq_zero (by omega)⟩
  obtain ⟨bb, hbb⟩ : ∃ bb : Bool, bb = bare := ⟨_, rfl⟩
  rw [← hbb] at hT
  cases bare
  case' true => simp -dsimp only [↓SD, SP, ↓reduceIte, Nat.reduceEqDiff, ini, frz, rdAo, rd3o, rd2o, rdpo, rd1o, fnv, intv, VOp.dst, getRo, solEo, solo, solo1, allsz, List.all_cons, List.all_nil, Bool.and_true, beq_self_eq_true, List.length_cons, List.length_nil, Nat.zero_add, srcv, Nat.le_refl, List.take_succ_cons, List.take_zero, and_self, if_true, Nat.reduceAdd, Nat.reduceLT, eq_self, gTo, l_lv, ↓r_any, hc rfl]
  case' false => simp -dsimp only [↓SD, SP, ↓reduceIte, Nat.reduceEqDiff, ini, frz, rdAo, rd3o, rd2o, rdpo, rd1o, fnv, intv, VOp.dst, getRo, solEo, solo, solo1, allsz, List.all_cons, List.all_nil, Bool.and_true, beq_self_eq_true, List.length_cons, List.length_nil, Nat.zero_add, srcv, Nat.le_refl, List.take_succ_cons, List.take_zero, and_self, if_true, Nat.reduceAdd, Nat.reduceLT, eq_self, gTo, l_lv, ↓r_any]
  all_goals
    refine call_rule hR ?_
    rintro lo1 hi1 r g1 g2 rfl
    simp -dsimp only [↓SD, SP, ↓reduceIte, Nat.reduceEqDiff, ini, frz, rdAo, rd3o, rd2o, rdpo, rd1o, fnv, intv, VOp.dst, getRo, solEo, solo, solo1, allsz, List.all_cons, List.all_nil, Bool.and_true, beq_self_eq_true, List.length_cons, List.length_nil, Nat.zero_add, srcv, Nat.le_refl, List.take_succ_cons, List.take_zero, and_self, if_true, Nat.reduceAdd, Nat.reduceLT, eq_self, wrap64 ((xs.length : Int) + rm xs.length) (by omega), ↓r_any]
    refine mk_at (by omega) fun g hg => ?_
    simp -dsimp only [↓SD, SP, ↓reduceIte, Nat.reduceEqDiff, ini, frz, rdAo, rd3o, rd2o, rdpo, rd1o, fnv, intv, VOp.dst, getRo, solEo, solo, solo1, allsz, List.all_cons, List.all_nil, Bool.and_true, beq_self_eq_true, List.length_cons, List.length_nil, Nat.zero_add, srcv, Nat.le_refl, List.take_succ_cons, List.take_zero, and_self, if_true, Nat.reduceAdd, Nat.reduceLT, eq_self, show ((xs.length : Int) + rm xs.length).toNat = xs.length + rm xs.length by omega]
    refine loop_rule (fun m E H n => ∃ rows : List AV, m + rows.length = xs.length ∧ E 0 = lv e xs ∧ E 1 = .bool bb ∧ E 5 = .own 20 g s (xs.length + rm xs.length) ∧ E 6 = .int .i64 rows.length ∧
          H 20 = some ⟨g, s, rows ++ List.replicate (m + rm xs.length) z, false, true, true⟩ ∧ Tin lo n (g :: tagsL rows) ∧ (∀ (i : Nat) (x : α) (y : AV), xs[i]? = some x → rows[i]? = some y → ∃ a b, Is a b x y) ∧ lo ≤ n)
      (fun e' E H n => e' = .exit 0 ∧ ∃ rows : List AV, rows.length = xs.length ∧ E 0 = lv e xs ∧ E 5 = .own 20 g s (xs.length + rm xs.length) ∧
          H 20 = some ⟨g, s, rows ++ List.replicate (rm xs.length) z, false, true, true⟩ ∧ Tin lo n (g :: tagsL rows) ∧ (∀ (i : Nat) (x : α) (y : AV), xs[i]? = some x → rows[i]? = some y → ∃ a b, Is a b x y) ∧ lo ≤ n)
      xs.length ⟨[], rfl, rfl, ?_, ?_, rfl, ?_, ?_, by simp, by omega⟩ ?_ ?_
    · simp -dsimp only [↓SD, SP, ↓reduceIte, Nat.reduceEqDiff, ini, frz, rdAo, rd3o, rd2o, rdpo, rd1o, fnv, intv, VOp.dst, getRo, solEo, solo, solo1, allsz, List.all_cons, List.all_nil, Bool.and_true, beq_self_eq_true, List.length_cons, List.length_nil, Nat.zero_add, srcv, Nat.le_refl, List.take_succ_cons, List.take_zero, and_self, if_true, Nat.reduceAdd, Nat.reduceLT, eq_self, hbb]
    · simp -dsimp only [↓SD, SP, ↓reduceIte, Nat.reduceEqDiff, ini, frz, rdAo, rd3o, rd2o, rdpo, rd1o, fnv, intv, VOp.dst, getRo, solEo, solo, solo1, allsz, List.all_cons, List.all_nil, Bool.and_true, beq_self_eq_true, List.length_cons, List.length_nil, Nat.zero_add, srcv, Nat.le_refl, List.take_succ_cons, List.take_zero, and_self, if_true, Nat.reduceAdd, Nat.reduceLT, eq_self, show ((xs.length : Int) + rm xs.length).toNat = xs.length + rm xs.length by omega]
    · simp -dsimp only [↓SD, SP, ↓reduceIte, Nat.reduceEqDiff, ini, frz, rdAo, rd3o, rd2o, rdpo, rd1o, fnv, intv, VOp.dst, getRo, solEo, solo, solo1, allsz, List.all_cons, List.all_nil, Bool.and_true, beq_self_eq_true, List.length_cons, List.length_nil, Nat.zero_add, srcv, Nat.le_refl, List.take_succ_cons, List.take_zero, and_self, if_true, Nat.reduceAdd, Nat.reduceLT, eq_self, show ((xs.length : Int) + rm xs.length).toNat = xs.length + rm xs.length by omega]
    · exact Tin.nil.cons (by simp) (by omega) (by omega)
    · rintro e' E H n ⟨rfl, rows, hrl, h0, h5, hH, hT1, hI, hlo⟩
      simp -dsimp only [↓SD, SP, ↓reduceIte, Nat.reduceEqDiff, ini, frz, rdAo, rd3o, rd2o, rdpo, rd1o, fnv, intv, VOp.dst, getRo, solEo, solo, solo1, allsz, List.all_cons, List.all_nil, Bool.and_true, beq_self_eq_true, List.length_cons, List.length_nil, Nat.zero_add, srcv, Nat.le_refl, List.take_succ_cons, List.take_zero, and_self, if_true, Nat.reduceAdd, Nat.reduceLT, eq_self, h0, l_lv]
      refine loop_rule (fun m E H n => ∃ fs : List AV, m + fs.length = rm xs.length ∧ E 0 = lv e xs ∧ E 5 = .own 20 g s (xs.length + rm xs.length) ∧ E 7 = .int .i64 (xs.length + fs.length : Nat) ∧
            H 20 = some ⟨g, s, (rows ++ fs) ++ List.replicate m z, false, true, true⟩ ∧ Tin lo n (g :: tagsL (rows ++ fs)) ∧ (∀ y ∈ fs, Fl y) ∧ lo ≤ n)
        (fun e' E H n => e' = .exit 2 ∧ ∃ fs : List AV, fs.length = rm xs.length ∧ E 0 = lv e xs ∧ E 5 = .own 20 g s (xs.length + rm xs.length) ∧
            H 20 = some ⟨g, s, rows ++ fs, false, true, true⟩ ∧ Tin lo n (g :: tagsL (rows ++ fs)) ∧ ∀ y ∈ fs, Fl y)
        (rm xs.length) ⟨[], rfl, ?_, ?_, ?_, ?_, ?_, by simp, hlo⟩ ?_ ?_
      · simp -dsimp only [↓SD, SP, ↓reduceIte, Nat.reduceEqDiff, ini, frz, rdAo, rd3o, rd2o, rdpo, rd1o, fnv, intv, VOp.dst, getRo, solEo, solo, solo1, allsz, List.all_cons, List.all_nil, Bool.and_true, beq_self_eq_true, List.length_cons, List.length_nil, Nat.zero_add, srcv, Nat.le_refl, List.take_succ_cons, List.take_zero, and_self, if_true, Nat.reduceAdd, Nat.reduceLT, eq_self, h0]
      · simp -dsimp only [↓SD, SP, ↓reduceIte, Nat.reduceEqDiff, ini, frz, rdAo, rd3o, rd2o, rdpo, rd1o, fnv, intv, VOp.dst, getRo, solEo, solo, solo1, allsz, List.all_cons, List.all_nil, Bool.and_true, beq_self_eq_true, List.length_cons, List.length_nil, Nat.zero_add, srcv, Nat.le_refl, List.take_succ_cons, List.take_zero, and_self, if_true, Nat.reduceAdd, Nat.reduceLT, eq_self, h5]
      · simp -dsimp only [↓SD, SP, ↓reduceIte, Nat.reduceEqDiff, ini, frz, rdAo, rd3o, rd2o, rdpo, rd1o, fnv, intv, VOp.dst, getRo, solEo, solo, solo1, allsz, List.all_cons, List.all_nil, Bool.and_true, beq_self_eq_true, List.length_cons, List.length_nil, Nat.zero_add, srcv, Nat.le_refl, List.take_succ_cons, List.take_zero, and_self, if_true, Nat.reduceAdd, Nat.reduceLT, eq_self, Nat.add_zero]
      · simp -dsimp only [↓SD, SP, ↓reduceIte, Nat.reduceEqDiff, ini, frz, rdAo, rd3o, rd2o, rdpo, rd1o, fnv, intv, VOp.dst, getRo, solEo, solo, solo1, allsz, List.all_cons, List.all_nil, Bool.and_true, beq_self_eq_true, List.length_cons, List.length_nil, Nat.zero_add, srcv, Nat.le_refl, List.take_succ_cons, List.take_zero, and_self, if_true, Nat.reduceAdd, Nat.reduceLT, eq_self, hH]
      · simp -dsimp only [↓SD, SP, ↓reduceIte, Nat.reduceEqDiff, ini, frz, rdAo, rd3o, rd2o, rdpo, rd1o, fnv, intv, VOp.dst, getRo, solEo, solo, solo1, allsz, List.all_cons, List.all_nil, Bool.and_true, beq_self_eq_true, List.length_cons, List.length_nil, Nat.zero_add, srcv, Nat.le_refl, List.take_succ_cons, List.take_zero, and_self, if_true, Nat.reduceAdd, Nat.reduceLT, eq_self]
        exact hT1
      · rintro e' E H n ⟨rfl, fs, hfl', h0, h5, hH, hT2, hW⟩
        have hsl : slcv H s (.own 20 g s (xs.length + rm xs.length)) none (some (.int .i64 xs.length)) = some (.own 20 g s xs.length) := by
          simp [slcv, hH, hrl, hfl', hs]
        simp -dsimp only [↓SD, SP, ↓reduceIte, Nat.reduceEqDiff, ini, frz, rdAo, rd3o, rd2o, rdpo, rd1o, fnv, intv, VOp.dst, getRo, solEo, solo, solo1, allsz, List.all_cons, List.all_nil, Bool.and_true, beq_self_eq_true, List.length_cons, List.length_nil, Nat.zero_add, srcv, Nat.le_refl, List.take_succ_cons, List.take_zero, and_self, if_true, Nat.reduceAdd, Nat.reduceLT, eq_self, h0, h5, l_lv, hsl, hH, List.length_append, hrl, Nat.le_add_right]
        refine .inr ⟨g, rows ++ fs, by omega, ?_, rfl, by simp [hrl, hfl'], hT2, fun i x y hx hy => ?_, fun i y hi hy => ?_⟩
        · exact (hT2.2 g List.mem_cons_self).2
        · have hlt := (List.getElem?_eq_some_iff.1 hx).1
          rw [List.getElem?_append_left (by omega)] at hy
          exact hI i x y hx hy
        · rw [List.getElem?_append_right (by omega)] at hy
          exact hW y (List.mem_of_getElem? hy)
      · rintro m E H n Q K ⟨fs, hm, h0, h5, h7, hH, hT2, hW, hlo⟩ hQ hK
        cases m with
        | zero =>
          simp -dsimp only [↓SD, SP, ↓reduceIte, Nat.reduceEqDiff, ini, frz, rdAo, rd3o, rd2o, rdpo, rd1o, fnv, intv, VOp.dst, getRo, solEo, solo, solo1, allsz, List.all_cons, List.all_nil, Bool.and_true, beq_self_eq_true, List.length_cons, List.length_nil, Nat.zero_add, srcv, Nat.le_refl, List.take_succ_cons, List.take_zero, and_self, if_true, Nat.reduceAdd, Nat.reduceLT, eq_self, h0, h5, h7, Int.ofNat_lt, show ¬ xs.length + fs.length < xs.length + rm xs.length by omega]
          refine hQ _ _ _ _ ⟨rfl, fs, by omega, h0, h5, ?_, hT2, hW⟩
          rw [hH]
          simp
        | succ m =>
          simp -dsimp only [↓SD, SP, ↓reduceIte, Nat.reduceEqDiff, ini, frz, rdAo, rd3o, rd2o, rdpo, rd1o, fnv, intv, VOp.dst, getRo, solEo, solo, solo1, allsz, List.all_cons, List.all_nil, Bool.and_true, beq_self_eq_true, List.length_cons, List.length_nil, Nat.zero_add, srcv, Nat.le_refl, List.take_succ_cons, List.take_zero, and_self, if_true, Nat.reduceAdd, Nat.reduceLT, eq_self, h0, h5, h7, Int.ofNat_lt, show xs.length + fs.length < xs.length + rm xs.length by omega, ↓r_any]
          refine call_rule hF ?_
          rintro lo2 hi2 r g3 g4 ⟨hw, ht⟩
          obtain ⟨⟨ffs, rfl, hfl2⟩, hfs⟩ := hfl _ hw
          have hst := st_agg (i := xs.length + fs.length) hH (by simp; omega) hfl2 (hfs H)
          rw [show xs.length + fs.length = (rows ++ fs).length by simp [hrl], set_next] at hst
          simp only [List.length_append, hrl] at hst
          simp -dsimp only [↓SD, SP, ↓reduceIte, Nat.reduceEqDiff, ini, frz, rdAo, rd3o, rd2o, rdpo, rd1o, fnv, intv, VOp.dst, getRo, solEo, solo, solo1, allsz, List.all_cons, List.all_nil, Bool.and_true, beq_self_eq_true, List.length_cons, List.length_nil, Nat.zero_add, srcv, Nat.le_refl, List.take_succ_cons, List.take_zero, and_self, if_true, Nat.reduceAdd, Nat.reduceLT, eq_self, ↓r_any, h5, h7, x_own 20 g s (xs.length + rm xs.length) (xs.length + fs.length) (by omega), hst, wrap64 (((xs.length + fs.length : Nat) : Int) + 1) (by omega)]
          refine hK m _ _ _ rfl ⟨fs ++ [.agg ffs], by simp; omega, ?_, ?_, ?_, ?_, ?_, fun y hy => ?_, by omega⟩
          · simp -dsimp only [↓SD, SP, ↓reduceIte, Nat.reduceEqDiff, ini, frz, rdAo, rd3o, rd2o, rdpo, rd1o, fnv, intv, VOp.dst, getRo, solEo, solo, solo1, allsz, List.all_cons, List.all_nil, Bool.and_true, beq_self_eq_true, List.length_cons, List.length_nil, Nat.zero_add, srcv, Nat.le_refl, List.take_succ_cons, List.take_zero, and_self, if_true, Nat.reduceAdd, Nat.reduceLT, eq_self, h0]
          · simp -dsimp only [↓SD, SP, ↓reduceIte, Nat.reduceEqDiff, ini, frz, rdAo, rd3o, rd2o, rdpo, rd1o, fnv, intv, VOp.dst, getRo, solEo, solo, solo1, allsz, List.all_cons, List.all_nil, Bool.and_true, beq_self_eq_true, List.length_cons, List.length_nil, Nat.zero_add, srcv, Nat.le_refl, List.take_succ_cons, List.take_zero, and_self, if_true, Nat.reduceAdd, Nat.reduceLT, eq_self, h5]
          · simp -dsimp only [↓SD, SP, ↓reduceIte, Nat.reduceEqDiff, ini, frz, rdAo, rd3o, rd2o, rdpo, rd1o, fnv, intv, VOp.dst, getRo, solEo, solo, solo1, allsz, List.all_cons, List.all_nil, Bool.and_true, beq_self_eq_true, List.length_cons, List.length_nil, Nat.zero_add, srcv, Nat.le_refl, List.take_succ_cons, List.take_zero, and_self, if_true, Nat.reduceAdd, Nat.reduceLT, eq_self, List.length_append, show ((xs.length + fs.length : Nat) : Int) + 1 = ((xs.length + (fs.length + 1) : Nat) : Int) by omega]
          · simp -dsimp only [↓SD, SP, ↓reduceIte, Nat.reduceEqDiff, ini, frz, rdAo, rd3o, rd2o, rdpo, rd1o, fnv, intv, VOp.dst, getRo, solEo, solo, solo1, allsz, List.all_cons, List.all_nil, Bool.and_true, beq_self_eq_true, List.length_cons, List.length_nil, Nat.zero_add, srcv, Nat.le_refl, List.take_succ_cons, List.take_zero, and_self, if_true, Nat.reduceAdd, Nat.reduceLT, eq_self, List.append_assoc]
          · rw [← List.append_assoc]
            exact tin_snoc hT2 ht (by omega) (by omega) (by omega) (by omega)
          · rcases List.mem_append.1 hy with hy | hy
            · exact hW y hy
            · obtain rfl := List.mem_singleton.1 hy
              exact hw
    · rintro m E H n Q K ⟨rows, hm, h0, h1, h5, h6, hH, hT1, hI, hlo⟩ hQ hK
      cases m with
      | zero =>
        simp -dsimp only [↓SD, SP, ↓reduceIte, Nat.reduceEqDiff, ini, frz, rdAo, rd3o, rd2o, rdpo, rd1o, fnv, intv, VOp.dst, getRo, solEo, solo, solo1, allsz, List.all_cons, List.all_nil, Bool.and_true, beq_self_eq_true, List.length_cons, List.length_nil, Nat.zero_add, srcv, Nat.le_refl, List.take_succ_cons, List.take_zero, and_self, if_true, Nat.reduceAdd, Nat.reduceLT, eq_self, h0, h5, h6, l_lv, Int.ofNat_lt, show ¬ rows.length < xs.length by omega]
        refine hQ _ _ _ _ ⟨rfl, rows, by omega, h0, h5, ?_, hT1, hI, hlo⟩
        rw [hH]
        simp
      | succ m =>
        have hi : rows.length < xs.length := by omega
        simp -dsimp only [↓SD, SP, ↓reduceIte, Nat.reduceEqDiff, ini, frz, rdAo, rd3o, rd2o, rdpo, rd1o, fnv, intv, VOp.dst, getRo, solEo, solo, solo1, allsz, List.all_cons, List.all_nil, Bool.and_true, beq_self_eq_true, List.length_cons, List.length_nil, Nat.zero_add, srcv, Nat.le_refl, List.take_succ_cons, List.take_zero, and_self, if_true, Nat.reduceAdd, Nat.reduceLT, eq_self, h0, h1, h5, h6, l_lv, Int.ofNat_lt, hi, x_lv he _ _ hi, ↓d_lv he, ↓he.rd, ↓r_any]
        refine call_rule (hT xs[rows.length] (List.getElem_mem hi)) ?_
        rintro lo2 hi2 r g3 g4 hr
        obtain ⟨⟨ffs, rfl, hfl'⟩, ht, hso⟩ := hIs _ _ _ _ hr
        have hst := st_agg (i := rows.length) hH (by simp; omega) hfl' (hso H)
        rw [show m + 1 + rm xs.length = (m + rm xs.length) + 1 by omega, set_next] at hst
        simp -dsimp only [↓SD, SP, ↓reduceIte, Nat.reduceEqDiff, ini, frz, rdAo, rd3o, rd2o, rdpo, rd1o, fnv, intv, VOp.dst, getRo, solEo, solo, solo1, allsz, List.all_cons, List.all_nil, Bool.and_true, beq_self_eq_true, List.length_cons, List.length_nil, Nat.zero_add, srcv, Nat.le_refl, List.take_succ_cons, List.take_zero, and_self, if_true, Nat.reduceAdd, Nat.reduceLT, eq_self, ↓r_any, h5, h6, x_own 20 g s (xs.length + rm xs.length) rows.length (by omega), hst, wrap64 ((rows.length : Int) + 1) (by omega)]
        refine hK m _ _ _ rfl ⟨rows ++ [.agg ffs], by simp; omega, ?_, ?_, ?_, ?_, ?_, ?_, ?_, ?_⟩
        · simp -dsimp only [↓SD, SP, ↓reduceIte, Nat.reduceEqDiff, ini, frz, rdAo, rd3o, rd2o, rdpo, rd1o, fnv, intv, VOp.dst, getRo, solEo, solo, solo1, allsz, List.all_cons, List.all_nil, Bool.and_true, beq_self_eq_true, List.length_cons, List.length_nil, Nat.zero_add, srcv, Nat.le_refl, List.take_succ_cons, List.take_zero, and_self, if_true, Nat.reduceAdd, Nat.reduceLT, eq_self, h0]
        · simp -dsimp only [↓SD, SP, ↓reduceIte, Nat.reduceEqDiff, ini, frz, rdAo, rd3o, rd2o, rdpo, rd1o, fnv, intv, VOp.dst, getRo, solEo, solo, solo1, allsz, List.all_cons, List.all_nil, Bool.and_true, beq_self_eq_true, List.length_cons, List.length_nil, Nat.zero_add, srcv, Nat.le_refl, List.take_succ_cons, List.take_zero, and_self, if_true, Nat.reduceAdd, Nat.reduceLT, eq_self, h1]
        · simp -dsimp only [↓SD, SP, ↓reduceIte, Nat.reduceEqDiff, ini, frz, rdAo, rd3o, rd2o, rdpo, rd1o, fnv, intv, VOp.dst, getRo, solEo, solo, solo1, allsz, List.all_cons, List.all_nil, Bool.and_true, beq_self_eq_true, List.length_cons, List.length_nil, Nat.zero_add, srcv, Nat.le_refl, List.take_succ_cons, List.take_zero, and_self, if_true, Nat.reduceAdd, Nat.reduceLT, eq_self, h5]
        · simp -dsimp only [↓SD, SP, ↓reduceIte, Nat.reduceEqDiff, ini, frz, rdAo, rd3o, rd2o, rdpo, rd1o, fnv, intv, VOp.dst, getRo, solEo, solo, solo1, allsz, List.all_cons, List.all_nil, Bool.and_true, beq_self_eq_true, List.length_cons, List.length_nil, Nat.zero_add, srcv, Nat.le_refl, List.take_succ_cons, List.take_zero, and_self, if_true, Nat.reduceAdd, Nat.reduceLT, eq_self, List.length_append, Int.natCast_add, Int.natCast_one]
        · simp -dsimp only [↓SD, SP, ↓reduceIte, Nat.reduceEqDiff, ini, frz, rdAo, rd3o, rd2o, rdpo, rd1o, fnv, intv, VOp.dst, getRo, solEo, solo, solo1, allsz, List.all_cons, List.all_nil, Bool.and_true, beq_self_eq_true, List.length_cons, List.length_nil, Nat.zero_add, srcv, Nat.le_refl, List.take_succ_cons, List.take_zero, and_self, if_true, Nat.reduceAdd, Nat.reduceLT, eq_self]
        · exact tin_snoc hT1 ht (by omega) (by omega) (by omega) (by omega)
        · intro i x y hx hy
          rcases Nat.lt_or_ge i rows.length with hlt | hge
          · rw [List.getElem?_append_left hlt] at hy
            exact hI i x y hx hy
          · have hlt := (List.getElem?_eq_some_iff.1 hy).1
            simp at hlt
            obtain rfl : i = rows.length := by omega
            rw [List.getElem?_append_right (Nat.le_refl _)] at hy
            simp at hy
            subst hy
            rw [List.getElem?_eq_getElem hi] at hx
            obtain rfl := Option.some.inj hx
            exact ⟨_, _, hr⟩
        · omega
/-- with the room behind the elements -/
def fullL {α : Type} (eF e : α → AV) (fx : α) (xs : List α) : AV := .lsl none xs.length (xs.map eF ++ List.replicate (rm xs.length) (e fx))
theorem IsL.wk {α : Type} {s : Nat} {Is : Nat → Nat → α → AV → Prop} {e : α → AV} {Fl : AV → Prop} (hIs : ∀ lo hi x r, Is lo hi x r → Wk r (e x)) {lo hi : Nat} {xs : List α} {bare : Bool} {r : AV} (h : IsL s Is Fl lo hi xs bare r) : Wk r (lv e xs) := by
  rcases h with ⟨rfl, rfl, _⟩ | ⟨g, rows, _, _, rfl, hl, _, hI, _⟩
  · exact .emp
  · refine .lsl _ _ _ _ (by simp) (by simp; omega) fun i y z hy hz => ?_
    rw [List.getElem?_map] at hz
    obtain ⟨x, hx, rfl⟩ := Option.map_eq_some_iff.1 hz
    obtain ⟨a, b, h⟩ := hI i x y hx hy
    exact hIs _ _ _ _ h
theorem IsL.wkF {α : Type} {s : Nat} {Is : Nat → Nat → α → AV → Prop} {eF e : α → AV} {fx : α} {Fl : AV → Prop} (hfl : ∀ r, Fl r → Wk r (e fx)) (hIs : ∀ lo hi x r, Is lo hi x r → Wk r (eF x)) {lo hi : Nat} {xs : List α} {r : AV} (h : IsL s Is Fl lo hi xs false r) : Wk r (fullL eF e fx xs) := by
  rcases h with ⟨_, _, h⟩ | ⟨g, rows, _, _, rfl, hl, _, hI, hf⟩
  · cases h
  · refine .lsl _ _ _ _ (by simp) (by simp; omega) fun i y z hy hz => ?_
    rcases Nat.lt_or_ge i xs.length with hlt | hge
    · rw [List.getElem?_append_left (by simpa using hlt), List.getElem?_map] at hz
      obtain ⟨x, hx, rfl⟩ := Option.map_eq_some_iff.1 hz
      obtain ⟨a, b, h⟩ := hI i x y hx hy
      exact hIs _ _ _ _ h
    · rw [List.getElem?_append_right (by simpa using hge)] at hz
      have := List.eq_of_mem_replicate (List.mem_of_getElem? hz)
      subst this
      exact hfl _ (hf i y hge hy)
theorem IsL.tin {α : Type} {s : Nat} {Is : Nat → Nat → α → AV → Prop} {Fl : AV → Prop} {lo hi : Nat} {xs : List α} {bare : Bool} {r : AV} (h : IsL s Is Fl lo hi xs bare r) : Tin lo hi (tags r) := by
  rcases h with ⟨rfl, rfl, _⟩ | ⟨g, rows, _, _, rfl, hl, ht, _, _⟩
  · exact .nil
  · exact ht
theorem pf_lv {α : Type} {fl : Bool} (e : α → AV) (xs : List α) : Pf fl (lv e xs) := .lsl _ _ (by simp) (by simp)
theorem pf_full {α : Type} (eF e : α → AV) (fx : α) (xs : List α) : Pf true (fullL eF e fx xs) := .lsl _ _ (by simp) (by simp)

theorem g_in {P : Program} {f s fI fE fR : Nat} (hk : chkFn P f (gIn s fI fE fR) = true) (hs : 0 < s) {α : Type} {e eF : α → AV} {fx : α} (he : El s e) (hF : ∀ x, ∃ fs, eF x = .agg fs ∧ fs.length = s) (hFr : ∀ H x, rd3o true H (eF x) = some (eF x, [])) (xs : List α) (hx : xs.length ≤ 1000000)
    (hR : ∀ k : Nat, k ≤ 1000000 → OK P fR [.int .i64 k] (fun _ _ r => r = .int .i64 (rm k))) (hI : ∀ x ∈ xs, OK P fI [eF x, eF x] (fun _ _ r => r = .bool true))
    (hE : ∀ n, n ≤ 10000000 → OK P fE [lv e (List.replicate n fx), lv e (List.replicate n fx)] (fun _ _ r => r = .bool true)) :
    OK P f [fullL eF e fx xs, fullL eF e fx xs] (fun _ _ r => r = .bool true) := by
  refine fn_ok hk rfl ?_
  have hR := hR xs.length hx
  have hrm := rm_le xs.length
  have hE := hE (rm xs.length) (by omega)
  generalize OK P = L at *
  intro lo
  have hlen : lenv false (fullL eF e fx xs) = some xs.length := rfl
  have hidx : ∀ i, (h : i < xs.length) → idxAv s (fullL eF e fx xs) (.int .i64 i) = some (.lptr (eF xs[i])) := fun i h => by
    obtain ⟨fs, h1, h2⟩ := hF xs[i]
    have hg : (xs.map eF ++ List.replicate (rm xs.length) (e fx))[i]? = some (eF xs[i]) := by
      rw [List.getElem?_append_left (by simpa using h)]
      simp [h]
    simp [idxAv, fullL, h, hg, h1, AV.sz, h2]
  have hld : ∀ H x, ldv H (some s) (.lptr (eF x)) = some (eF x) := fun H x => by
    obtain ⟨fs, h1, h2⟩ := hF x
    simp [ldv, h1, fitsz, h2]
  have hsl : ∀ H, slcv H s (fullL eF e fx xs) (some (.int .i64 xs.length)) (some (.int .i64 ((xs.length : Int) + rm xs.length))) = some (lv e (List.replicate (rm xs.length) fx)) := fun H => by
    have hd : hdOk s (xs.map eF ++ List.replicate (rm xs.length) (e fx)) = true := by
      rw [← hd_iff]
      intro y hy
      have hm : y ∈ xs.map eF ++ List.replicate (rm xs.length) (e fx) := by
        cases hl : xs.map eF ++ List.replicate (rm xs.length) (e fx) with
        | nil => rw [hl] at hy; cases hy
        | cons z zs => rw [hl] at hy; simp at hy; subst hy; exact List.mem_cons_self
      rcases List.mem_append.1 hm with hm | hm
      · obtain ⟨x, _, rfl⟩ := List.mem_map.1 hm
        obtain ⟨fs, h1, h2⟩ := hF x
        rw [h1]
        exact h2
      · rw [List.eq_of_mem_replicate hm]
        obtain ⟨fs, h1, h2⟩ := he.agg fx
        rw [h1]
        exact h2
    have hn : ((xs.length : Int) + rm xs.length).toNat = xs.length + rm xs.length := by omega
    have hdr : (xs.map eF ++ List.replicate (rm xs.length) (e fx)).drop xs.length = List.replicate (rm xs.length) (e fx) := List.drop_left' (by simp)
    simp [slcv, fullL, hs, hd, hn, hdr, lv, Int.ofNat_le]
    omega
  simp -dsimp only [↓SD, SP, ↓reduceIte, Nat.reduceEqDiff, ini, frz, rdAo, rd3o, rd2o, rdpo, rd1o, fnv, intv, VOp.dst, getRo, solEo, solo, solo1, allsz, List.all_cons, List.all_nil, Bool.and_true, beq_self_eq_true, List.length_cons, List.length_nil, Nat.zero_add, srcv, Nat.le_refl, List.take_succ_cons, List.take_zero, and_self, if_true, Nat.reduceAdd, Nat.reduceLT, eq_self, gIn, hlen, ↓r_any]
  refine call_rule hR ?_
  rintro lo1 hi1 r - - rfl
  simp -dsimp only [↓SD, SP, ↓reduceIte, Nat.reduceEqDiff, ini, frz, rdAo, rd3o, rd2o, rdpo, rd1o, fnv, intv, VOp.dst, getRo, solEo, solo, solo1, allsz, List.all_cons, List.all_nil, Bool.and_true, beq_self_eq_true, List.length_cons, List.length_nil, Nat.zero_add, srcv, Nat.le_refl, List.take_succ_cons, List.take_zero, and_self, if_true, Nat.reduceAdd, Nat.reduceLT, eq_self, ↓r_any, hlen, wrap64 ((xs.length : Int) + rm xs.length) (by omega)]
  refine loop_rule (fun m E H n => ∃ i : Nat, m + i = xs.length ∧ E 0 = fullL eF e fx xs ∧ E 1 = fullL eF e fx xs ∧ E 5 = .int .i64 ((xs.length : Int) + rm xs.length) ∧ E 6 = .int .i64 i)
    (fun e' E H n => e' = .exit 0 ∧ E 0 = fullL eF e fx xs ∧ E 1 = fullL eF e fx xs ∧ E 5 = .int .i64 ((xs.length : Int) + rm xs.length)) xs.length ⟨0, rfl, ?_, ?_, ?_, ?_⟩ ?_ ?_
  · simp -dsimp only [↓SD, SP, ↓reduceIte, Nat.reduceEqDiff, ini, frz, rdAo, rd3o, rd2o, rdpo, rd1o, fnv, intv, VOp.dst, getRo, solEo, solo, solo1, allsz, List.all_cons, List.all_nil, Bool.and_true, beq_self_eq_true, List.length_cons, List.length_nil, Nat.zero_add, srcv, Nat.le_refl, List.take_succ_cons, List.take_zero, and_self, if_true, Nat.reduceAdd, Nat.reduceLT, eq_self]
  · simp -dsimp only [↓SD, SP, ↓reduceIte, Nat.reduceEqDiff, ini, frz, rdAo, rd3o, rd2o, rdpo, rd1o, fnv, intv, VOp.dst, getRo, solEo, solo, solo1, allsz, List.all_cons, List.all_nil, Bool.and_true, beq_self_eq_true, List.length_cons, List.length_nil, Nat.zero_add, srcv, Nat.le_refl, List.take_succ_cons, List.take_zero, and_self, if_true, Nat.reduceAdd, Nat.reduceLT, eq_self]
  · simp -dsimp only [↓SD, SP, ↓reduceIte, Nat.reduceEqDiff, ini, frz, rdAo, rd3o, rd2o, rdpo, rd1o, fnv, intv, VOp.dst, getRo, solEo, solo, solo1, allsz, List.all_cons, List.all_nil, Bool.and_true, beq_self_eq_true, List.length_cons, List.length_nil, Nat.zero_add, srcv, Nat.le_refl, List.take_succ_cons, List.take_zero, and_self, if_true, Nat.reduceAdd, Nat.reduceLT, eq_self]
  · simp -dsimp only [↓SD, SP, ↓reduceIte, Nat.reduceEqDiff, ini, frz, rdAo, rd3o, rd2o, rdpo, rd1o, fnv, intv, VOp.dst, getRo, solEo, solo, solo1, allsz, List.all_cons, List.all_nil, Bool.and_true, beq_self_eq_true, List.length_cons, List.length_nil, Nat.zero_add, srcv, Nat.le_refl, List.take_succ_cons, List.take_zero, and_self, if_true, Nat.reduceAdd, Nat.reduceLT, eq_self, Int.natCast_zero]
  · rintro e' E H n ⟨rfl, h0, h1, h5⟩
    simp -dsimp only [↓SD, SP, ↓reduceIte, Nat.reduceEqDiff, ini, frz, rdAo, rd3o, rd2o, rdpo, rd1o, fnv, intv, VOp.dst, getRo, solEo, solo, solo1, allsz, List.all_cons, List.all_nil, Bool.and_true, beq_self_eq_true, List.length_cons, List.length_nil, Nat.zero_add, srcv, Nat.le_refl, List.take_succ_cons, List.take_zero, and_self, if_true, Nat.reduceAdd, Nat.reduceLT, eq_self, h0, h1, h5, hlen, hsl, ↓rd_lv, ↓r_any]
    refine call_rule hE ?_
    rintro lo2 hi2 r - - rfl
    simp -dsimp only [↓SD, SP, ↓reduceIte, Nat.reduceEqDiff, ini, frz, rdAo, rd3o, rd2o, rdpo, rd1o, fnv, intv, VOp.dst, getRo, solEo, solo, solo1, allsz, List.all_cons, List.all_nil, Bool.and_true, beq_self_eq_true, List.length_cons, List.length_nil, Nat.zero_add, srcv, Nat.le_refl, List.take_succ_cons, List.take_zero, and_self, if_true, Nat.reduceAdd, Nat.reduceLT, eq_self, ↓r_any]
  · rintro m E H n Q K ⟨i, hm, h0, h1, h5, h6⟩ hQ hK
    by_cases hi : i < xs.length
    · simp -dsimp only [↓SD, SP, ↓reduceIte, Nat.reduceEqDiff, ini, frz, rdAo, rd3o, rd2o, rdpo, rd1o, fnv, intv, VOp.dst, getRo, solEo, solo, solo1, allsz, List.all_cons, List.all_nil, Bool.and_true, beq_self_eq_true, List.length_cons, List.length_nil, Nat.zero_add, srcv, Nat.le_refl, List.take_succ_cons, List.take_zero, and_self, if_true, Nat.reduceAdd, Nat.reduceLT, eq_self, h0, h1, h5, h6, hlen, Int.ofNat_lt, hi, hidx i hi, ↓hld, ↓hFr, ↓r_any]
      refine call_rule (hI xs[i] (List.getElem_mem hi)) ?_
      rintro lo2 hi2 r - - rfl
      simp -dsimp only [↓SD, SP, ↓reduceIte, Nat.reduceEqDiff, ini, frz, rdAo, rd3o, rd2o, rdpo, rd1o, fnv, intv, VOp.dst, getRo, solEo, solo, solo1, allsz, List.all_cons, List.all_nil, Bool.and_true, beq_self_eq_true, List.length_cons, List.length_nil, Nat.zero_add, srcv, Nat.le_refl, List.take_succ_cons, List.take_zero, and_self, if_true, Nat.reduceAdd, Nat.reduceLT, eq_self, ↓r_any, h6, wrap64 ((i : Int) + 1) (by omega)]
      refine hK (m - 1) _ _ _ (by omega) ⟨i + 1, by omega, ?_, ?_, ?_, ?_⟩
      · simp -dsimp only [↓SD, SP, ↓reduceIte, Nat.reduceEqDiff, ini, frz, rdAo, rd3o, rd2o, rdpo, rd1o, fnv, intv, VOp.dst, getRo, solEo, solo, solo1, allsz, List.all_cons, List.all_nil, Bool.and_true, beq_self_eq_true, List.length_cons, List.length_nil, Nat.zero_add, srcv, Nat.le_refl, List.take_succ_cons, List.take_zero, and_self, if_true, Nat.reduceAdd, Nat.reduceLT, eq_self, h0]
      · simp -dsimp only [↓SD, SP, ↓reduceIte, Nat.reduceEqDiff, ini, frz, rdAo, rd3o, rd2o, rdpo, rd1o, fnv, intv, VOp.dst, getRo, solEo, solo, solo1, allsz, List.all_cons, List.all_nil, Bool.and_true, beq_self_eq_true, List.length_cons, List.length_nil, Nat.zero_add, srcv, Nat.le_refl, List.take_succ_cons, List.take_zero, and_self, if_true, Nat.reduceAdd, Nat.reduceLT, eq_self, h1]
      · simp -dsimp only [↓SD, SP, ↓reduceIte, Nat.reduceEqDiff, ini, frz, rdAo, rd3o, rd2o, rdpo, rd1o, fnv, intv, VOp.dst, getRo, solEo, solo, solo1, allsz, List.all_cons, List.all_nil, Bool.and_true, beq_self_eq_true, List.length_cons, List.length_nil, Nat.zero_add, srcv, Nat.le_refl, List.take_succ_cons, List.take_zero, and_self, if_true, Nat.reduceAdd, Nat.reduceLT, eq_self, h5]
      · simp -dsimp only [↓SD, SP, ↓reduceIte, Nat.reduceEqDiff, ini, frz, rdAo, rd3o, rd2o, rdpo, rd1o, fnv, intv, VOp.dst, getRo, solEo, solo, solo1, allsz, List.all_cons, List.all_nil, Bool.and_true, beq_self_eq_true, List.length_cons, List.length_nil, Nat.zero_add, srcv, Nat.le_refl, List.take_succ_cons, List.take_zero, and_self, if_true, Nat.reduceAdd, Nat.reduceLT, eq_self, Int.natCast_add, Int.natCast_one]
    · simp -dsimp only [↓SD, SP, ↓reduceIte, Nat.reduceEqDiff, ini, frz, rdAo, rd3o, rd2o, rdpo, rd1o, fnv, intv, VOp.dst, getRo, solEo, solo, solo1, allsz, List.all_cons, List.all_nil, Bool.and_true, beq_self_eq_true, List.length_cons, List.length_nil, Nat.zero_add, srcv, Nat.le_refl, List.take_succ_cons, List.take_zero, and_self, if_true, Nat.reduceAdd, Nat.reduceLT, eq_self, h0, h1, h5, h6, hlen, Int.ofNat_lt, hi]
      exact hQ _ _ _ _ ⟨rfl, h0, h1, h5⟩
end Go.AVM
