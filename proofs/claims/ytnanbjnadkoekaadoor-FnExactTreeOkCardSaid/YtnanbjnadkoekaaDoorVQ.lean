/- What the checker asks of an operation, and that the quiet operations do on the real machine what the abstract one says. -/
import Derived.Test.YtnanbjnadkoekaaDoorVB
namespace Go.AVM
set_option linter.unusedSimpArgs false
open Go.RowKit
set_option linter.unusedVariables false

def constV0 : Value → AV → Bool
  | .bool a, .bool b => a == b
  | .int k a, .int j b => decide (k = j) && decide (a = b)
  | .string a, .str b => decide (a.data.toList = b.data.toList)
  | .slice none 0 0, .emp => true
  | .pointer none, .undef => true
  | .nilFunc, .undef => true
  | .nilIface, .undef => true
  | _, _ => false
def constV : Value → AV → Bool
  | .agg cs, .agg fs => decide (cs.size = fs.length) && (fs.all fun f => !f.isAgg) && (cs.toList.zip fs).all fun p => constV0 p.1 p.2
  | v, x => constV0 v x

def mOpd (nt : Nat) : Operand → Opd → Bool
  | .tmp t, .t u => t == u && decide (t < nt)
  | .const v, .c x => constV v x
  | .func f, .c (.fn g []) => f == g
  | _, _ => false
def mOpds (nt : Nat) (xs : Array Operand) (ys : List Opd) : Bool := decide (xs.size = ys.length) && (xs.toList.zip ys).all fun p => mOpd nt p.1 p.2
def mOpdo (nt : Nat) : Option Operand → Option Opd → Bool
  | none, none => true
  | some x, some y => mOpd nt x y
  | _, _ => false

def elOf (P : Program) (t : TypeId) : Option TypeInfo := match P.underlying t with | some (.slice e) => P.info? e | _ => none
def isStr (P : Program) (t : TypeId) : Bool := match P.underlying t with | some .string => true | _ => false
def isSl (P : Program) (t : TypeId) : Bool := match P.underlying t with | some (.slice _) => true | _ => false
def aggT (P : Program) (t : TypeId) : Option Bool := match P.underlying t with | some (.struct _) | some (.array _ _) => some true | some _ => some false | none => none
def szT (P : Program) (t : TypeId) : Option Nat := (P.info? t).map (·.size)
def szOk (P : Program) (t : TypeId) : Option Nat → Bool
  | none => aggT P t == some false
  | some m => aggT P t == some true && szT P t == some m
def zeroOk (i : TypeInfo) (s : Nat) (z : AV) : Bool := i.size == s && decide (0 < s) && match i.zero with | some v => constV v z && v.cells.size == s | none => false

/-- the parts of a struct's literal, field by field -/
def partsOk (nt : Nat) (zero : List Value) (parts : List (Nat × Operand)) : Nat → List Opd → Bool
  | _, [] => true
  | i, x :: xs => (match parts.find? (·.1 == i) with
      | some p => mOpd nt p.2 x
      | none => match zero[i]?, x with | some z, .c y => constV0 z y && !y.isAgg | _, _ => false) && partsOk nt zero parts (i + 1) xs
def seqOk (nt : Nat) : Nat → List (Nat × Operand) → List Opd → Bool
  | _, [], [] => true
  | i, p :: ps, x :: xs => p.1 == i && mOpd nt p.2 x && seqOk nt (i + 1) ps xs
  | _, _, _ => false

def mOp1 (P : Program) (nt : Nat) : Op → VOp → Bool
  | .move x, .mv _ y | .assign x, .mv _ y => mOpd nt x y
  | .binOp op _ x y _, .bin _ op' x' y' => decide (op = op') && mOpd nt x x' && mOpd nt y y'
  | .unOp .not _ x, .not _ y => mOpd nt x y
  | .unOp .neg _ x, .neg _ y => mOpd nt x y
  | .convert t u x, .b2s _ x' => (match P.underlying t with | some (.slice e) => (match P.underlying e with | some (.int .u8) => true | _ => false) | _ => false) && isStr P u && mOpd nt x x'
  | .pick c x y, .pick _ c' x' y' => mOpd nt c c' && mOpd nt x x' && mOpd nt y y'
  | .call { callee := .builtin .len, args := args, argTypes := ts }, .len _ b y => match args.toList, ts.toList with
    | [x], [t] => mOpd nt x y && (if b then isStr P t else isSl P t)
    | _, _ => false
  | .index t x i, .idx _ x' i' => isStr P t && mOpd nt x x' && mOpd nt i i'
  | .indexAddr t x i, .idxA _ s x' i' => decide (0 < s) && (match elOf P t with | some ti => ti.size == s | none => false) && mOpd nt x x' && mOpd nt i i'
  | .fieldAddr t x f, .fldA _ x' f' => (match P.underlying t with
      | some (.struct fs) => (match fs[f]? with | some fd => fd.offset == f' && szT P fd.type == some 1 | none => false)
      | _ => false) && mOpd nt x x'
  | .load t x, .ld _ x' sz => szOk P t sz && mOpd nt x x'
  | .slice t x lo hi none, .slc _ s x' lo' hi' => (if s = 0 then isStr P t else (match elOf P t with | some ti => ti.size == s | none => false)) && mOpd nt x x' && mOpdo nt lo lo' && mOpdo nt hi hi'
  | .slice t x none (some (.const (.int _ i))) (some (.const (.int _ j))), .slc0 _ x' => decide (i = 0) && decide (j = 0) && (elOf P t).isSome && mOpd nt x x'
  | .extract x i, .ext _ x' i' => i == i' && mOpd nt x x'
  | .field t x f, .fld _ x' f' => (match P.underlying t with
      | some (.struct fs) => (match fs[f]? with | some fd => fd.offset == f' && aggT P fd.type == some false | none => false)
      | _ => false) && mOpd nt x x'
  | .build t parts, .bld _ xs => (match P.underlying t, P.info? t with
      | some (.struct fs), some ti => fs.size == xs.length && (fs.toList.zipIdx.all fun p => p.1.offset == p.2 && szT P p.1.type == some 1) &&
          (match ti.zero with | some (.agg zs) => zs.size == xs.length && partsOk nt zs.toList parts.toList 0 xs | _ => false)
      | _, _ => false) && (parts.toList.map (·.1)).Nodup && parts.toList.all (fun p => p.1 < xs.length)
  | .convert t u x, .conv _ k x' => (P.underlying t).isSome && (match P.underlying u with | some (.int j) => decide (j = k) | _ => false) && mOpd nt x x'
  | .call { callee := .builtin b, args := args, argTypes := _ }, .mx _ gt x' y' => (match b with | .max => gt | .min => !gt | _ => false) && (match args.toList with | [x, y] => mOpd nt x x' && mOpd nt y y' | _ => false)
  | .makeFunc (.func f) first caps, .mkf _ f' ys => f == f' && first.size == 0 && mOpds nt caps ys
  | .nilCheck x, .nilck _ y => mOpd nt x y
  | .binOp op t x y _, .beq _ neg x' y' => decide (op = if neg = true then .neq else .eql) && (match P.underlying t with | some .bool => true | _ => false) && mOpd nt x x' && mOpd nt y y'
  | .alloc e, .alc _ s z => (match P.info? e with | some ti => zeroOk ti s z | none => false)
  | .box _ x, .box _ _ y => mOpd nt x y
  | .makeSlice t n c, .mks _ s m z bytes => (match elOf P t with | some ti => ti.bytes == bytes && zeroOk ti s z | none => false) && mOpd nt n m && mOpd nt c m
  | .buildSlice t len parts, .bls _ s xs _ => (match elOf P t with | some ti => ti.zero.isSome && ti.size == s && decide (0 < s) && (match ti.zero with | some z => z.cells.size == s | none => false) | none => false) && len == xs.length && decide (len * s ≤ 16777216) && seqOk nt 0 parts.toList xs
  | .store t x v, .st x' v' sz => (match sz with | none => szT P t == some 1 | some m => szT P t == some m) && mOpd nt x x' && mOpd nt v v'
  | .call { callee := .builtin .append, args := args, argTypes := ts }, .app _ s x' y' bytes _ _ => (match args.toList, ts.toList with
      | [x, y], [t, t'] => t == t' && (match elOf P t with | some ti => ti.size == s && decide (0 < s) && ti.bytes == bytes && (match ti.zero with | some z => z.cells.size == s | none => false) | none => false) && mOpd nt x x' && mOpd nt y y'
      | _, _ => false)
  | .call { callee := .value f, args := args, argTypes := _ }, .call _ f' xs _ _ => mOpd nt f f' && mOpds nt args xs
  | .call { callee := .value f, args := args, argTypes := _ }, .callm _ f' xs => mOpd nt f f' && mOpds nt args xs
  | _, _ => false

/-- x is compared with nil -/
def mNil (P : Program) (nt : Nat) (ne : Bool) (x' : Opd) : Op → Bool
  | .binOp op t x y _ => decide (op = if ne = true then .neq else .eql) && isSl P t && mOpd nt x x' && (match y with | .const (.slice none 0 0) => true | _ => false)
  | _ => false
/-- the operation whose text an operation has -/
def VOp.base : VOp → VOp
  | .uem d s => .bls d s [] true
  | .ucl d s x y bytes => .app d s x y bytes true false
  | o => o
def mOp2 (P : Program) (nt : Nat) (op : Op) : VOp → Bool
  | .isnil _ ne x => mNil P nt ne x op
  | .uend => false
  | vo => mOp1 P nt op vo.base
def mOp (P : Program) (nt : Nat) (o : Oper) (vo : VOp) : Bool :=
  (match vo.dst with | some d => o.dst == some d && decide (d < nt) | none => o.dst == none) && mOp2 P nt o.op vo

/-! ### constants, operands -/
theorem constV0_ok {w : World} {T : Nat → Prop} {v : Value} {x : AV} (h : constV0 v x = true) : RC w T x [v] := by
  unfold constV0 at h
  split at h <;> first | (simp at h; done) | skip
  · simp at h; subst h; exact .bool _
  · simp at h; obtain ⟨rfl, rfl⟩ := h; exact .int _ _
  · rename_i a b
    have : a = b := by
      cases a; cases b
      simp only [decide_eq_true_eq] at h
      congr
      exact Array.ext' h
    subst this
    exact .str _
  · exact .emp _
  · exact .undef _ (by intro u hu; rw [List.mem_singleton.1 hu]; rfl)
  · exact .undef _ (by intro u hu; rw [List.mem_singleton.1 hu]; rfl)
  · exact .undef _ (by intro u hu; rw [List.mem_singleton.1 hu]; rfl)

theorem constV_cells {w : World} {T : Nat → Prop} {v : Value} {x : AV} (h : constV v x = true) : RC w T x v.cells.toList ∧ (x.isAgg = false → v.cells = #[v]) ∧ (x.isAgg = true → ∃ cs, v = .agg cs) := by
  unfold constV at h
  split at h
  · rename_i cs fs
    simp only [Bool.and_eq_true, decide_eq_true_eq, List.all_eq_true, Bool.not_eq_true'] at h
    obtain ⟨⟨hl, hn⟩, hz⟩ := h
    refine ⟨.agg fs _ (by simpa [Value.cells] using hl.symm) hn (fun i f c hf hc => ?_), by simp [AV.isAgg], fun _ => ⟨cs, rfl⟩⟩
    refine constV0_ok (hz (c, f) ?_)
    refine List.mem_iff_getElem?.2 ⟨i, ?_⟩
    rw [List.getElem?_zip_eq_some]
    exact ⟨hc, hf⟩
  · have hc := constV0_ok (w := w) (T := T) h
    have h1 : v.cells = #[v] := by
      unfold constV0 at h
      split at h <;> first | rfl | (simp at h; done)
    refine ⟨by rw [h1]; exact hc, fun _ => h1, fun ha => ?_⟩
    unfold constV0 at h
    split at h <;> simp_all [AV.isAgg]

theorem constV_rv {w : World} {T : Nat → Prop} {v : Value} {x : AV} (h : constV v x = true) : RV w T x v := by
  obtain ⟨hc, h1, h2⟩ := constV_cells (w := w) (T := T) h
  cases ha : x.isAgg with
  | false => rw [h1 ha] at hc; exact RC.rv (by simpa using hc) ha
  | true =>
    obtain ⟨cs, rfl⟩ := h2 ha
    cases x <;> simp_all [AV.isAgg]
    exact ⟨cs, rfl, hc⟩

structure Rel (w : World) (T : Nat → Prop) (nt : Nat) (E : Env) (a : Act) : Prop where
  size : a.tmps.size = nt
  tm : ∀ t, t < nt → RV w T (E t) (a.tmps.getD t undef)

section
variable {w : World} {T : Nat → Prop} {nt : Nat} {E : Env} {a : Act}
theorem Rel.ev (hr : Rel w T nt E a) {x : Operand} {y : Opd} (h : mOpd nt x y = true) : RV w T (ev E y) (a.eval x) := by
  unfold mOpd at h
  split at h
  · simp at h
    obtain ⟨rfl, hlt⟩ := h
    exact hr.tm _ hlt
  · exact constV_rv h
  · simp at h
    subst h
    exact RC.rv (.fn _ [] [] rfl (by simp) (by simp)) rfl
  · simp at h
theorem Rel.evs (hr : Rel w T nt E a) {xs : Array Operand} {ys : List Opd} (h : mOpds nt xs ys = true) : (xs.map a.eval).size = (ys.map (Go.AVM.ev E)).length ∧
    ∀ (i : Nat) (x : AV), (ys.map (Go.AVM.ev E))[i]? = some x → ∃ u, (xs.map a.eval)[i]? = some u ∧ RV w T x u := by
  simp only [mOpds, Bool.and_eq_true, decide_eq_true_eq, List.all_eq_true] at h
  obtain ⟨hl, h⟩ := h
  refine ⟨by simpa using hl, fun i x hi => ?_⟩
  rw [List.getElem?_map] at hi
  obtain ⟨y, hy, rfl⟩ := Option.map_eq_some_iff.1 hi
  have hlt : i < xs.size := by
    rw [hl]
    exact (List.getElem?_eq_some_iff.1 hy).1
  refine ⟨a.eval xs[i], by simp [hlt], hr.ev (h (xs[i], y) ?_)⟩
  refine List.mem_iff_getElem?.2 ⟨i, ?_⟩
  rw [List.getElem?_zip_eq_some]
  exact ⟨by simp [hlt], hy⟩
end
end Go.AVM
