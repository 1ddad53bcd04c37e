/- The quiet operations, one by one. -/
import Derived.Laws.Small
import Derived.Test.YtnanbjnadkoekaaDoorVQ
import Derived.Laws.Strings
namespace Go.AVM
set_option linter.unusedSimpArgs false
open Go.RowKit
set_option linter.unusedVariables false

def Quiet (P : Program) (w : World) (m : Bool) (o : Oper) (a : Act) (u : Value) : Prop := ∀ w', (m = true → Below w.heap.size w w') → (execOp a.eval o).run P w' = .ok (.value u) w'

section
variable {w : World} {T : Nat → Prop} {v : Value}
theorem RV.int_inv {k : IntKind} {n : Int} (h : RV w T (.int k n) v) : v = .int k n := by
  have h : RC w T (.int k n) [v] := h
  cases h; rfl
theorem RV.bool_inv {b : Bool} (h : RV w T (.bool b) v) : v = .bool b := by
  have h : RC w T (.bool b) [v] := h
  cases h; rfl
theorem RV.str_inv {b : ByteArray} (h : RV w T (.str b) v) : v = .string b := by
  have h : RC w T (.str b) [v] := h
  cases h; rfl
theorem RV.emp_inv (h : RV w T .emp v) : ∃ a, v = .slice a 0 0 := by
  have h : RC w T .emp [v] := h
  cases h; exact ⟨_, rfl⟩
theorem RV.own_inv {d b s len : Nat} (h : RV w T (.own d b s len) v) : ∃ cap, v = .slice (some ⟨b, 0, none⟩) len cap ∧ len ≤ cap ∧ cap ≤ maxLen ∧ ∃ (c : Array Value) (e : TypeId), w.heap[b]? = some (.cells c e (0, 0)) ∧ c.size = cap * s := by
  have h : RC w T (.own d b s len) [v] := h
  cases h with | own d b s len cap hl hm h' => exact ⟨cap, rfl, hl, hm, h'⟩
theorem RV.optr_inv {d b s i : Nat} {f : Option Nat} (h : RV w T (.optr d b s i f) v) : v = .pointer (some ⟨b, i * s + f.getD 0, none⟩) := by
  have h : RC w T (.optr d b s i f) [v] := h
  cases h; rfl
theorem RV.lptr_inv {x : AV} (h : RV w T (.lptr x) v) : ∃ g off cs, v = .pointer (some ⟨g, off, none⟩) ∧ T g ∧ cs.length = x.sz ∧ (∀ (j : Nat) (u : Value), cs[j]? = some u → w.cell? ⟨g, off + j, none⟩ = some u) ∧ RC w T x cs := by
  have h : RC w T (.lptr x) [v] := h
  cases h with | lptr x cs g off hT hs hc h' => exact ⟨g, off, cs, rfl, hT, hs, hc, h'⟩
theorem RV.lsl_inv {t : Option (Nat × Nat)} {len : Nat} {xs : List AV} (h : RV w T (.lsl t len xs) v) : ∃ a cap s, ∃ cells : Nat → List Value, v = .slice a len cap ∧ len ≤ cap ∧ len ≤ xs.length ∧ xs.length ≤ cap ∧ cap ≤ maxLen ∧
      (xs ≠ [] → ∃ (g off : Nat), a = some ⟨g, off, none⟩ ∧ T g ∧ ∀ (i : Nat) (x : AV), xs[i]? = some x → (cells i).length = s ∧ ∀ (j : Nat) (v : Value), (cells i)[j]? = some v → w.cell? ⟨g, off + i * s + j, none⟩ = some v) ∧
      (∀ (b s' : Nat), t = some (b, s') → s' = s ∧ T b ∧ a = some ⟨b, 0, none⟩ ∧ ∃ (c : Array Value) (e : TypeId), w.heap[b]? = some (.cells c e (0, 0)) ∧ c.size = cap * s) ∧
      (∀ (i : Nat) (x : AV), xs[i]? = some x → RC w T x (cells i)) := by
  have h : RC w T (.lsl t len xs) [v] := h
  cases h with | lsl t len cap s xs a cells h1 h2 h3 hm hne ht h' => exact ⟨a, cap, s, cells, rfl, h1, h2, h3, hm, hne, ht, h'⟩
theorem RV.agg_inv {fs : List AV} (h : RV w T (.agg fs) v) : ∃ cs, v = .agg cs ∧ fs.length = cs.size ∧ (∀ f ∈ fs, f.isAgg = false) ∧ ∀ (i : Nat) (f : AV) (c : Value), fs[i]? = some f → cs[i]? = some c → RC w T f [c] := by
  obtain ⟨cs, rfl, h⟩ := h
  cases h with | agg _ _ hl hn h => exact ⟨cs, rfl, by simpa using hl, hn, fun i f c hf hc => h i f c hf (by simpa using hc)⟩
theorem RV.fn_inv {f : FuncId} {cap : List AV} (h : RV w T (.fn f cap) v) : ∃ cs : List Value, v = .func (.func f) #[] cs.toArray ∧ cap.length = cs.length ∧ (∀ f ∈ cap, f.isAgg = false) ∧ ∀ (i : Nat) (x : AV) (c : Value), cap[i]? = some x → cs[i]? = some c → RC w T x [c] := by
  have h : RC w T (.fn f cap) [v] := h
  cases h with | fn _ _ cs hl hn h' => exact ⟨cs, rfl, hl, hn, h'⟩
theorem RV.tup_inv {vs : List AV} (h : RV w T (.tup vs) v) : ∃ cs : Array Value, v = .tuple cs ∧ cs.size = vs.length ∧ ∀ (i : Nat) (x : AV), vs[i]? = some x → ∃ u, cs[i]? = some u ∧ RV0 w T x u := h
theorem RV.of0 {x : AV} (h : RV0 w T x v) : RV w T x v := by
  cases x <;> first | exact h | exact h.elim
end

section
variable {P : Program} {w : World} {T base : Nat → Prop} {nt : Nat} {E : Env} {H : Hp} {a : Act} {K : Nat → AV → Prop} {o : Oper}

theorem mOp_dst {vo : VOp} (hm : mOp P nt o vo = true) {d : Nat} (hd : vo.dst = some d) : o.dst = some d ∧ d < nt ∧ mOp2 P nt o.op vo = true := by
  simp only [mOp, hd, Bool.and_eq_true, beq_iff_eq, decide_eq_true_eq] at hm
  exact ⟨hm.1.1, hm.1.2, hm.2⟩

theorem q_mv {d : Nat} {y : Opd} (hr : Rel w T nt E a) (hm : mOp P nt o (.mv d y) = true) (h : vq E H (.mv d y) K) :
    ∃ d x u, o.dst = some d ∧ d < nt ∧ K d x ∧ RV w T x u ∧ Quiet P w false o a u := by
  obtain ⟨h1, h2, h3⟩ := mOp_dst hm rfl
  obtain ⟨x, hx, hop⟩ : ∃ x, mOpd nt x y = true ∧ (o.op = .move x ∨ o.op = .assign x) := by
    generalize o.op = op at *
    cases op <;> simp_all [mOp2, VOp.base, mOp1]
  refine ⟨d, _, a.eval x, h1, h2, h, hr.ev hx, fun w' _ => ?_⟩
  rcases hop with e | e <;> simp [execOp, e]

theorem bin_int {op : BinOp} {t : TypeId} {x1 x2 : Operand} {k j : IntKind} {m n : Int} {v : AV} (hv : binv op (.int k m) (.int j n) = some v) :
    ∃ u, RC w T v [u] ∧ v.isAgg = false ∧ ∀ w', (do eqGuard op t x1 x2 (.int k m) (.int j n); binOp op t (.int k m) (.int j n) : Sem Value).run P w' = .ok u w' := by
  cases op <;> simp only [binv, Option.ite_none_right_eq_some, Option.some.injEq, reduceCtorEq] at hv
  all_goals (obtain ⟨hc, rfl⟩ := hv)
  case shr =>
    refine ⟨.int _ _, RC.int _ _, rfl, fun w' => ?_⟩
    have : ¬ n < 0 := by omega
    simp [eqGuard, binOp, Op.shift, this]
  case quo => obtain ⟨rfl, hb⟩ := hc; exact ⟨.int _ _, RC.int _ _, rfl, fun w' => by simp [eqGuard, binOp, Op.intDiv, hb]⟩
  case rem => obtain ⟨rfl, hb⟩ := hc; exact ⟨.int _ _, RC.int _ _, rfl, fun w' => by simp [eqGuard, binOp, Op.intDiv, hb]⟩
  case xor => subst hc; exact ⟨.int _ _, RC.int _ _, rfl, fun w' => by simp [eqGuard, binOp, Op.intBits]⟩
  all_goals subst hc
  all_goals first
    | exact ⟨.int _ _, RC.int _ _, rfl, fun w' => by simp [eqGuard, binOp, Op.intArith]⟩
    | exact ⟨.bool _, RC.bool _, rfl, fun w' => by simp [eqGuard, binOp, Op.intCmp]⟩

theorem bin_str {op : BinOp} {t : TypeId} {x1 x2 : Operand} {m n : ByteArray} {v : AV} (hv : binv op (.str m) (.str n) = some v) :
    ∃ u, RC w T v [u] ∧ v.isAgg = false ∧ ∀ w', (do eqGuard op t x1 x2 (.string m) (.string n); binOp op t (.string m) (.string n) : Sem Value).run P w' = .ok u w' := by
  cases op <;> simp only [binv, Option.ite_none_right_eq_some, Option.some.injEq, reduceCtorEq] at hv
  case add =>
    obtain ⟨hc, rfl⟩ := hv
    refine ⟨.string _, RC.str _, rfl, fun w' => ?_⟩
    have : ¬ (((m.size + n.size : Nat) : Int) > IntKind.i64.max) := by
      simp only [IntKind.max, IntKind.signed, IntKind.bits]
      simp only [if_true]
      omega
    simp only [eqGuard, binOp, Op.stringOp, if_neg this]
    simp
  all_goals (subst hv; exact ⟨.bool _, RC.bool _, rfl, fun w' => by simp [eqGuard, binOp, Op.stringOp]⟩)

theorem bin_run {op : BinOp} {t : TypeId} {x1 x2 : Operand} {vx vy v : AV} {ux uy : Value} (hx : RV w T vx ux) (hy : RV w T vy uy) (hv : binv op vx vy = some v) :
    ∃ u, RV w T v u ∧ ∀ w', (do eqGuard op t x1 x2 ux uy; binOp op t ux uy : Sem Value).run P w' = .ok u w' := by
  cases vx <;> cases vy <;> first | (cases op <;> simp [binv] at hv; done) | skip
  · rw [hx.int_inv, hy.int_inv]
    obtain ⟨u, h1, h2, h3⟩ := bin_int (P := P) (w := w) (T := T) (t := t) (x1 := x1) (x2 := x2) hv
    exact ⟨u, h1.rv h2, h3⟩
  · rw [hx.str_inv, hy.str_inv]
    obtain ⟨u, h1, h2, h3⟩ := bin_str (P := P) (w := w) (T := T) (t := t) (x1 := x1) (x2 := x2) hv
    exact ⟨u, h1.rv h2, h3⟩

theorem q_bin {d : Nat} {op : BinOp} {y z : Opd} (hr : Rel w T nt E a) (hm : mOp P nt o (.bin d op y z) = true) (h : vq E H (.bin d op y z) K) :
    ∃ d x u, o.dst = some d ∧ d < nt ∧ K d x ∧ RV w T x u ∧ Quiet P w false o a u := by
  obtain ⟨h1, h2, h3⟩ := mOp_dst hm rfl
  obtain ⟨t, x1, x2, t2, hx, hy, hop⟩ : ∃ t x1 x2 t2, mOpd nt x1 y = true ∧ mOpd nt x2 z = true ∧ o.op = .binOp op t x1 x2 t2 := by
    generalize o.op = op' at *
    cases op' <;> first | (simp [mOp2, VOp.base, mOp1] at h3; done) | skip
    simp [mOp2, VOp.base, mOp1] at h3
    exact ⟨_, _, _, _, h3.1.2, h3.2, by rw [h3.1.1]⟩
  obtain ⟨v, hv, hK⟩ := h
  obtain ⟨u, hu, hrun⟩ := bin_run (P := P) (t := t) (x1 := x1) (x2 := x2) (hr.ev hx) (hr.ev hy) hv
  refine ⟨d, v, u, h1, h2, hK, hu, fun w' _ => ?_⟩
  simp only [execOp, hop]
  rw [Sem.run_bind, hrun w']
  simp

theorem q_beq {d : Nat} {neg : Bool} {y z : Opd} (hr : Rel w T nt E a) (hm : mOp P nt o (.beq d neg y z) = true) (h : vq E H (.beq d neg y z) K) :
    ∃ d x u, o.dst = some d ∧ d < nt ∧ K d x ∧ RV w T x u ∧ Quiet P w false o a u := by
  obtain ⟨h1, h2, h3⟩ := mOp_dst hm rfl
  obtain ⟨op, t, x1, x2, t2, hx, hy, hu, he, hop⟩ : ∃ op t x1 x2 t2, mOpd nt x1 y = true ∧ mOpd nt x2 z = true ∧ P.underlying t = some .bool ∧ op = (if neg = true then .neq else .eql) ∧ o.op = .binOp op t x1 x2 t2 := by
    generalize o.op = op' at *
    cases op' <;> first | (simp [mOp2, VOp.base, mOp1] at h3; done) | skip
    rename_i op t x1 x2 t2
    simp [mOp2, VOp.base, mOp1] at h3
    obtain ⟨⟨⟨he, hu⟩, hx⟩, hy⟩ := h3
    refine ⟨op, t, x1, x2, t2, hx, hy, ?_, he, rfl⟩
    split at hu
    · assumption
    · cases hu
  obtain ⟨m, n, hv1, hv2, hK⟩ := h
  have g1 := hr.ev hx
  have g2 := hr.ev hy
  rw [hv1] at g1
  rw [hv2] at g2
  refine ⟨d, _, .bool (if neg = true then !(m == n) else (m == n)), h1, h2, hK, RC.bool _, fun w' _ => ?_⟩
  subst he
  simp only [execOp, hop, g1.bool_inv, g2.bool_inv]
  cases neg
  · rw [Sem.run_bind]
    have := run_eql_bool w' t m n hu
    simp [eqGuard] at this ⊢
    simp [this]
  · have := run_neq_bool w' t m n hu
    simp [eqGuard] at this ⊢
    simp [this]

theorem q_not {d : Nat} {y : Opd} (hr : Rel w T nt E a) (hm : mOp P nt o (.not d y) = true) (h : vq E H (.not d y) K) :
    ∃ d x u, o.dst = some d ∧ d < nt ∧ K d x ∧ RV w T x u ∧ Quiet P w false o a u := by
  obtain ⟨h1, h2, h3⟩ := mOp_dst hm rfl
  obtain ⟨t, x, hx, hop⟩ : ∃ t x, mOpd nt x y = true ∧ o.op = .unOp .not t x := by
    generalize o.op = op' at *
    cases op' <;> first | (simp [mOp2, VOp.base, mOp1] at h3; done) | skip
    rename_i op t x
    cases op <;> first | (simp [mOp2, VOp.base, mOp1] at h3; done) | skip
    exact ⟨t, x, h3, rfl⟩
  obtain ⟨b, hb, hK⟩ := h
  have hv := hr.ev hx
  rw [hb] at hv
  refine ⟨d, _, .bool (!b), h1, h2, hK, RC.bool _, fun w' _ => ?_⟩
  simp [execOp, hop, hv.bool_inv, Op.unary]

theorem q_pick {d : Nat} {c y z : Opd} (hr : Rel w T nt E a) (hm : mOp P nt o (.pick d c y z) = true) (h : vq E H (.pick d c y z) K) :
    ∃ d x u, o.dst = some d ∧ d < nt ∧ K d x ∧ RV w T x u ∧ Quiet P w false o a u := by
  obtain ⟨h1, h2, h3⟩ := mOp_dst hm rfl
  obtain ⟨c', x1, x2, hc, hx, hy, hop⟩ : ∃ c' x1 x2, mOpd nt c' c = true ∧ mOpd nt x1 y = true ∧ mOpd nt x2 z = true ∧ o.op = .pick c' x1 x2 := by
    generalize o.op = op' at *
    cases op' <;> first | (simp [mOp2, VOp.base, mOp1] at h3; done) | skip
    simp [mOp2, VOp.base, mOp1] at h3
    exact ⟨_, _, _, h3.1.1, h3.1.2, h3.2, rfl⟩
  obtain ⟨b, hb, hK⟩ := h
  have hv := hr.ev hc
  rw [hb] at hv
  refine ⟨d, _, if b = true then a.eval x1 else a.eval x2, h1, h2, hK, ?_, fun w' _ => ?_⟩
  · cases b
    · exact hr.ev hy
    · exact hr.ev hx
  · cases b <;> simp [execOp, hop, hv.bool_inv, asBool]

theorem isStr_spec {t : TypeId} (h : isStr P t = true) : P.underlying t = some .string := by
  unfold isStr at h
  split at h <;> simp_all
theorem isSl_spec {t : TypeId} (h : isSl P t = true) : ∃ e, P.underlying t = some (.slice e) := by
  unfold isSl at h
  split at h <;> simp_all
theorem elOf_spec {t : TypeId} {ti : TypeInfo} (h : elOf P t = some ti) : ∃ e, P.underlying t = some (.slice e) ∧ P.info? e = some ti := by
  unfold elOf at h
  split at h
  · exact ⟨_, by assumption, h⟩
  · cases h

theorem inv_len {op : Op} {d : Nat} {b : Bool} {y : Opd} (h : mOp1 P nt op (.len d b y) = true) :
    ∃ x t, mOpd nt x y = true ∧ (if b then isStr P t else isSl P t) = true ∧ op = .call { callee := .builtin .len, args := #[x], argTypes := #[t] } := by
  cases op <;> first | (simp [mOp2, VOp.base, mOp1] at h; done) | skip
  rename_i c
  obtain ⟨cal, ⟨args⟩, ⟨ts⟩⟩ := c
  cases cal <;> first | (simp [mOp2, VOp.base, mOp1] at h; done) | skip
  rename_i bi
  cases bi <;> first | (simp [mOp2, VOp.base, mOp1] at h; done) | skip
  rcases args with _ | ⟨x, _ | _⟩ <;> first | (simp [mOp2, VOp.base, mOp1] at h; done) | skip
  rcases ts with _ | ⟨t, _ | _⟩ <;> first | (simp [mOp2, VOp.base, mOp1] at h; done) | skip
  simp only [mOp2, VOp.base, mOp1, Bool.and_eq_true] at h
  exact ⟨x, t, h.1, h.2, rfl⟩

theorem q_len {d : Nat} {b : Bool} {y : Opd} (hr : Rel w T nt E a) (hm : mOp P nt o (.len d b y) = true) (h : vq E H (.len d b y) K) :
    ∃ d x u, o.dst = some d ∧ d < nt ∧ K d x ∧ RV w T x u ∧ Quiet P w false o a u := by
  obtain ⟨h1, h2, h3⟩ := mOp_dst hm rfl
  obtain ⟨x, t, hx, ht, hop⟩ := inv_len h3
  obtain ⟨n, hn, hK⟩ := h
  have hv := hr.ev hx
  generalize ev E y = vy at *
  refine ⟨d, _, .int .i64 n, h1, h2, hK, RC.int _ _, fun w' _ => ?_⟩
  cases b with
  | true =>
    cases vy <;> simp [lenv] at hn
    subst hn
    simp [execOp, hop, resolve, invoke, builtin, hv.str_inv, Builtin.len_, run_underlying (isStr_spec ht), goInt]
  | false =>
    obtain ⟨e, he⟩ := isSl_spec ht
    cases vy <;> simp [lenv] at hn
    · obtain ⟨a', ha'⟩ := hv.emp_inv
      subst hn
      simp [execOp, hop, resolve, invoke, builtin, ha', Builtin.len_, run_underlying he, goInt]
    · obtain ⟨a', cap, s, cells, ha', _⟩ := hv.lsl_inv
      subst hn
      simp [execOp, hop, resolve, invoke, builtin, ha', Builtin.len_, run_underlying he, goInt]
    · obtain ⟨cap, ha', _⟩ := hv.own_inv
      subst hn
      simp [execOp, hop, resolve, invoke, builtin, ha', Builtin.len_, run_underlying he, goInt]

theorem q_idx {d : Nat} {y z : Opd} (hr : Rel w T nt E a) (hm : mOp P nt o (.idx d y z) = true) (h : vq E H (.idx d y z) K) :
    ∃ d x u, o.dst = some d ∧ d < nt ∧ K d x ∧ RV w T x u ∧ Quiet P w false o a u := by
  obtain ⟨h1, h2, h3⟩ := mOp_dst hm rfl
  obtain ⟨t, x1, x2, ht, hx, hy, hop⟩ : ∃ t x1 x2, isStr P t = true ∧ mOpd nt x1 y = true ∧ mOpd nt x2 z = true ∧ o.op = .index t x1 x2 := by
    generalize o.op = op' at *
    cases op' <;> first | (simp [mOp2, VOp.base, mOp1] at h3; done) | skip
    simp [mOp2, VOp.base, mOp1] at h3
    exact ⟨_, _, _, h3.1.1, h3.1.2, h3.2, rfl⟩
  have hvx := hr.ev hx
  have hvy := hr.ev hy
  simp only [vq] at h
  generalize ev E y = vy at *
  generalize ev E z = vz at *
  cases vy <;> first | (exact h.elim) | skip
  cases vz <;> first | (exact h.elim) | skip
  rename_i s k i
  obtain ⟨c, hc, h0, hK⟩ := h
  refine ⟨d, _, .int .u8 c.toNat, h1, h2, hK, RC.int _ _, fun w' _ => ?_⟩
  have hc' : s[i.toNat]? = some c := by
    have hlt := (Array.getElem?_eq_some_iff.1 hc).1
    have : s[i.toNat]? = some (s[i.toNat]'hlt) := getElem?_pos s i.toNat hlt
    rw [this]
    exact congrArg some (Array.getElem?_eq_some_iff.1 hc).2
  simp [execOp, hop, hvx.str_inv, hvy.int_inv, Instr.index, asIntOf, run_underlying (isStr_spec ht), h0, hc']

theorem add_none (g off k : Nat) : (⟨g, off, none⟩ : Addr).add k = ⟨g, off + k, none⟩ := by
  unfold Addr.add
  split
  · rename_i h; simp [h]
  · rfl

theorem q_idxA {d s : Nat} {y z : Opd} (hr : Rel w T nt E a) (hm : mOp P nt o (.idxA d s y z) = true) (h : vq E H (.idxA d s y z) K) :
    ∃ d x u, o.dst = some d ∧ d < nt ∧ K d x ∧ RV w T x u ∧ Quiet P w false o a u := by
  obtain ⟨h1, h2, h3⟩ := mOp_dst hm rfl
  obtain ⟨t, x1, x2, ti, hs0, ht, hts, hx, hy, hop⟩ : ∃ t x1 x2 ti, 0 < s ∧ elOf P t = some ti ∧ ti.size = s ∧ mOpd nt x1 y = true ∧ mOpd nt x2 z = true ∧ o.op = .indexAddr t x1 x2 := by
    generalize o.op = op' at *
    cases op' <;> first | (simp [mOp2, VOp.base, mOp1] at h3; done) | skip
    simp only [mOp2, VOp.base, mOp1, Bool.and_eq_true] at h3
    obtain ⟨⟨⟨h3, h4⟩, h5⟩, h6⟩ := h3
    split at h4
    · exact ⟨_, _, _, _, by simpa using h3, by assumption, by simpa using h4, h5, h6, rfl⟩
    · cases h4
  obtain ⟨e, he, hi⟩ := elOf_spec ht
  have hvx := hr.ev hx
  have hvy := hr.ev hy
  simp only [vq] at h
  generalize ev E y = vy at *
  generalize ev E z = vz at *
  cases vy <;> first | (exact h.elim) | skip
  · cases vz <;> first | (exact h.elim) | skip
    rename_i tg len xs k i
    obtain ⟨x, hxi, h0, hlt, hsz, hK⟩ := h
    obtain ⟨ad, cap, s', cells, hav, hlc, hll, hxc, _, hne, _, hrc⟩ := hvx.lsl_inv
    have hne' : xs ≠ [] := by rintro rfl; simp at hxi
    obtain ⟨g, off, rfl, hT, hcell⟩ := hne hne'
    obtain ⟨hcl, hcc⟩ := hcell _ _ hxi
    have hrx := hrc _ _ hxi
    have hl := hrx.len (by omega)
    have hs' : s' = s := by omega
    subst hs'
    refine ⟨d, _, .pointer (some ⟨g, off + i.toNat * s', none⟩), h1, h2, hK, RC.lptr x (cells i.toNat) g _ hT hl (fun j v hj => hcc j v hj) hrx, fun w' _ => ?_⟩
    simp [execOp, hop, hav, hvy.int_inv, Instr.indexAt, asIntOf, run_underlying he, h0, hlt, sizeOf, typeInfo, hi, hts, add_none]
  · cases vz <;> first | (exact h.elim) | skip
    rename_i d' b s' len k i
    obtain ⟨h0, hlt, rfl, hK⟩ := h
    obtain ⟨cap, hav, _⟩ := hvx.own_inv
    refine ⟨d, _, .pointer (some ⟨b, i.toNat * s', none⟩), h1, h2, hK, (by have := RC.optr (w := w) (T := T) d' b s' i.toNat none; simpa [RV, RV0] using this), fun w' _ => ?_⟩
    simp [execOp, hop, hav, hvy.int_inv, Instr.indexAt, asIntOf, run_underlying he, h0, hlt, sizeOf, typeInfo, hi, hts, add_none]

theorem below_cell {w' : World} {g o : Nat} {v : Value} (hb : Below w.heap.size w w') (h : w.cell? ⟨g, o, none⟩ = some v) : w'.cell? ⟨g, o, none⟩ = some v := by
  have hlt : g < w.heap.size := World.block_lt_of_cell? w ⟨g, o, none⟩ h
  rw [cell_of (hb.block g hlt)]
  exact h

theorem q_fldA {d f : Nat} {y : Opd} (hr : Rel w T nt E a) (hm : mOp P nt o (.fldA d y f) = true) (h : vq E H (.fldA d y f) K) :
    ∃ d x u, o.dst = some d ∧ d < nt ∧ K d x ∧ RV w T x u ∧ Quiet P w false o a u := by
  obtain ⟨h1, h2, h3⟩ := mOp_dst hm rfl
  obtain ⟨t, x1, i, fs, fd, hu, hfd, hof, hsz, hx, hop⟩ : ∃ t x1 i, ∃ fs : Array Field, ∃ fd, P.underlying t = some (.struct fs) ∧ fs[i]? = some fd ∧ fd.offset = f ∧ szT P fd.type = some 1 ∧ mOpd nt x1 y = true ∧ o.op = .fieldAddr t x1 i := by
    generalize o.op = op' at *
    cases op' <;> first | (simp [mOp2, VOp.base, mOp1] at h3; done) | skip
    simp only [mOp2, VOp.base, mOp1, Bool.and_eq_true] at h3
    obtain ⟨h4, h6⟩ := h3
    split at h4 <;> first | (cases h4; done) | skip
    split at h4 <;> first | (cases h4; done) | skip
    simp only [Bool.and_eq_true, beq_iff_eq] at h4
    exact ⟨_, _, _, _, _, by assumption, by assumption, h4.1, h4.2, h6, rfl⟩
  have hvx := hr.ev hx
  simp only [vq] at h
  generalize ev E y = vy at *
  obtain ⟨i0, hi0, hi1⟩ := Option.map_eq_some_iff.1 hsz
  cases vy <;> first | (exact h.elim) | skip
  · rename_i x
    cases x <;> first | (exact h.elim) | skip
    rename_i xs
    obtain ⟨y', hy', hna, hyz, hK⟩ := h
    obtain ⟨g, off, cs, hav, hT, hcl, hcc, hrx⟩ := hvx.lptr_inv
    cases hrx with
    | agg _ _ hl hn hrc =>
    have hlt : f < cs.length := by rw [← hl]; exact (List.getElem?_eq_some_iff.1 hy').1
    refine ⟨d, _, .pointer (some ⟨g, off + f, none⟩), h1, h2, hK, ?_, fun w' _ => ?_⟩
    · have hrc' := hrc f y' cs[f] hy' (List.getElem?_eq_getElem hlt)
      refine RC.lptr y' [cs[f]] g (off + f) hT hyz.symm (fun j v hj => ?_) hrc'
      have hj0 : j = 0 := by
        have := (List.getElem?_eq_some_iff.1 hj).1
        simpa using this
      subst hj0
      obtain rfl : cs[f] = v := by simpa using hj
      exact hcc f _ (List.getElem?_eq_getElem hlt)
    · simp [execOp, hop, hav, Instr.fieldAt, run_underlying hu, hfd, Instr.sureAddr, fieldPlace, sizeOf, typeInfo, hi0, hi1, hof, add_none]
  · rename_i d' b s i' fo
    cases fo <;> first | (exact h.elim) | skip
    obtain ⟨hlt, hK⟩ := h
    refine ⟨d, _, .pointer (some ⟨b, i' * s + f, none⟩), h1, h2, hK, ?_, fun w' _ => ?_⟩
    · have := RC.optr (w := w) (T := T) d' b s i' (some f)
      simpa [RV, RV0] using this
    · simp [execOp, hop, hvx.optr_inv, Instr.fieldAt, run_underlying hu, hfd, Instr.sureAddr, fieldPlace, sizeOf, typeInfo, hi0, hi1, hof, add_none]

theorem aggT_false {t : TypeId} (h : aggT P t = some false) (w' : World) : (isAgg t).run P w' = .ok false w' := by
  unfold aggT at h
  cases hd : P.underlying t with
  | none => simp [hd] at h
  | some d =>
    rw [hd] at h
    simp only [isAgg, Sem.run_bind, run_underlying hd, Result.andThen_ok]
    cases d <;> first | rfl | (simp at h)
theorem aggT_true {t : TypeId} (h : aggT P t = some true) (w' : World) : (isAgg t).run P w' = .ok true w' := by
  unfold aggT at h
  cases hd : P.underlying t with
  | none => simp [hd] at h
  | some d =>
    rw [hd] at h
    simp only [isAgg, Sem.run_bind, run_underlying hd, Result.andThen_ok]
    cases d <;> first | rfl | (simp at h)
theorem run_sizeOf {t : TypeId} {m : Nat} (h : szT P t = some m) (w' : World) : (sizeOf t).run P w' = .ok m w' := by
  obtain ⟨i, hi, rfl⟩ := Option.map_eq_some_iff.1 h
  simp [sizeOf, typeInfo, hi]

theorem load_one {t : TypeId} {g off : Nat} {u : Value} (hz : szOk P t none = true) (w' : World) (hc : w'.cell? ⟨g, off, none⟩ = some u) :
    (Instr.loadAt t (.pointer (some ⟨g, off, none⟩))).run P w' = .ok u w' := by
  have h : aggT P t = some false := by simpa [szOk] using hz
  simp only [Instr.loadAt, Instr.sureAddr, loadVar, Sem.run_bind, Sem.run_pure, Result.andThen_ok, aggT_false h]
  simp [hc]
theorem load_agg {t : TypeId} {g off m : Nat} {cs : List Value} (hz : szOk P t (some m) = true) (hl : cs.length = m) (w' : World) (hc : ∀ (j : Nat) (v : Value), cs[j]? = some v → w'.cell? ⟨g, off + j, none⟩ = some v) :
    (Instr.loadAt t (.pointer (some ⟨g, off, none⟩))).run P w' = .ok (.agg cs.toArray) w' := by
  have h : aggT P t = some true ∧ szT P t = some m := by simpa [szOk] using hz
  simp only [Instr.loadAt, Instr.sureAddr, loadVar, Sem.run_bind, Sem.run_pure, Result.andThen_ok, aggT_true h.1, run_sizeOf h.2, if_true]
  have := run_loadCells_list (P := P) w' ⟨g, off, none⟩ cs (fun j v hj => by rw [add_none]; exact hc j v hj)
  rw [hl] at this
  rw [this]
  rfl

theorem q_ld {d : Nat} {y : Opd} {sz : Option Nat} (hH : ∀ d k, H d = some k → BOK w T base k) (hr : Rel w T nt E a) (hm : mOp P nt o (.ld d y sz) = true) (h : vq E H (.ld d y sz) K) :
    ∃ d x u, o.dst = some d ∧ d < nt ∧ K d x ∧ RV w T x u ∧ Quiet P w true o a u := by
  obtain ⟨h1, h2, h3⟩ := mOp_dst hm rfl
  obtain ⟨t, x1, hz, hx, hop⟩ : ∃ t x1, szOk P t sz = true ∧ mOpd nt x1 y = true ∧ o.op = .load t x1 := by
    generalize o.op = op' at *
    cases op' <;> first | (simp [mOp2, VOp.base, mOp1] at h3; done) | skip
    simp only [mOp2, VOp.base, mOp1, Bool.and_eq_true] at h3
    exact ⟨_, _, h3.1, h3.2, rfl⟩
  have hvx := hr.ev hx
  simp only [vq] at h
  generalize ev E y = vy at *
  -- one cell, or a row of cells, wherever they lie
  have one : ∀ (g off : Nat) (x : AV) (u : Value), sz = none → a.eval x1 = .pointer (some ⟨g, off, none⟩) → w.cell? ⟨g, off, none⟩ = some u → RC w T x [u] → x.isAgg = false → K d x →
      ∃ d x u, o.dst = some d ∧ d < nt ∧ K d x ∧ RV w T x u ∧ Quiet P w true o a u := by
    intro g off x u hs hav hc hrc hna hK
    subst hs
    refine ⟨d, x, u, h1, h2, hK, hrc.rv hna, fun w' hb => ?_⟩
    simp [execOp, hop, hav, load_one hz w' (below_cell (hb rfl) hc)]
  have many : ∀ (g off m : Nat) (fs : List AV) (cs : List Value), sz = some m → fs.length = m → a.eval x1 = .pointer (some ⟨g, off, none⟩) → cs.length = m → (∀ (j : Nat) (v : Value), cs[j]? = some v → w.cell? ⟨g, off + j, none⟩ = some v) → RC w T (.agg fs) cs → K d (.agg fs) →
      ∃ d x u, o.dst = some d ∧ d < nt ∧ K d x ∧ RV w T x u ∧ Quiet P w true o a u := by
    intro g off m fs cs hs hf hav hl hc hrc hK
    subst hs
    refine ⟨d, .agg fs, .agg cs.toArray, h1, h2, hK, ⟨cs.toArray, rfl, hrc⟩, fun w' hb => ?_⟩
    simp [execOp, hop, hav, load_agg hz hl w' (fun j v hj => below_cell (hb rfl) (hc j v hj))]
  cases vy <;> first | (exact h.elim) | skip
  · rename_i x
    obtain ⟨hs, hK⟩ := h
    obtain ⟨g, off, cs, hav, hT, hcl, hcc, hrx⟩ := hvx.lptr_inv
    cases sz with
    | none =>
      obtain ⟨hna, hx1⟩ := hs
      rw [hx1] at hcl
      obtain ⟨u, rfl⟩ := List.length_eq_one_iff.1 hcl
      exact one g off x u rfl hav (by simpa using hcc 0 u rfl) hrx hna hK
    | some m =>
      obtain ⟨fs, rfl, hf⟩ := hs
      exact many g off m fs cs rfl hf hav (by rw [hcl]; exact hf) hcc hrx hK
  · rename_i d' b s i fo
    have hav := hvx.optr_inv
    cases fo with
    | none =>
      obtain ⟨k, hk, rfl, rfl, x, hxi, hs, hK⟩ := h
      obtain ⟨_, _, c, e, hh, _, _, hall⟩ := hH d' k hk
      obtain ⟨cs, hcl, hrc, hcc⟩ := hall i x hxi
      have hcell : ∀ (j : Nat) (v : Value), cs[j]? = some v → w.cell? ⟨k.b, i * k.s + j, none⟩ = some v := fun j v hj => by
        simp [World.cell?, hh, hcc j v hj]
      cases sz with
      | none =>
        obtain ⟨hna, hs1⟩ := hs
        rw [hs1] at hcl
        obtain ⟨u, rfl⟩ := List.length_eq_one_iff.1 hcl
        exact one k.b _ x u rfl hav (by simpa using hcell 0 u rfl) hrc hna hK
      | some m =>
        obtain ⟨fs, rfl, hf⟩ := hs
        refine many k.b _ m fs cs rfl hf hav ?_ (by simpa using hcell) hrc hK
        have := hrc.len
        by_cases h0 : (AV.agg fs).sz = 0
        · cases hrc with
          | agg _ _ hl _ _ => omega
        · have := this h0
          simp only [AV.sz] at this
          omega
    | some f =>
      obtain ⟨k, hk, rfl, rfl, fs, hxi, x, hfx, hna, hs, hK⟩ := h
      obtain ⟨_, _, c, e, hh, _, _, hall⟩ := hH d' k hk
      obtain ⟨cs, hcl, hrc, hcc⟩ := hall i _ hxi
      cases hrc with
      | agg _ _ hl hn hrc =>
      have hlt : f < cs.length := by rw [← hl]; exact (List.getElem?_eq_some_iff.1 hfx).1
      refine one k.b _ x cs[f] hs hav ?_ (hrc f x _ hfx (List.getElem?_eq_getElem hlt)) hna hK
      simp [World.cell?, hh, hcc f _ (List.getElem?_eq_getElem hlt)]

theorem q_ext {d i : Nat} {y : Opd} (hr : Rel w T nt E a) (hm : mOp P nt o (.ext d y i) = true) (h : vq E H (.ext d y i) K) :
    ∃ d x u, o.dst = some d ∧ d < nt ∧ K d x ∧ RV w T x u ∧ Quiet P w false o a u := by
  obtain ⟨h1, h2, h3⟩ := mOp_dst hm rfl
  obtain ⟨x1, hx, hop⟩ : ∃ x1, mOpd nt x1 y = true ∧ o.op = .extract x1 i := by
    generalize o.op = op' at *
    cases op' <;> first | (simp [mOp2, VOp.base, mOp1] at h3; done) | skip
    simp only [mOp2, VOp.base, mOp1, Bool.and_eq_true, beq_iff_eq] at h3
    exact ⟨_, h3.2, by rw [h3.1]⟩
  obtain ⟨vs, hvs, x, hxi, hK⟩ := h
  have hv := hr.ev hx
  rw [hvs] at hv
  obtain ⟨cs, hav, hcs, hall⟩ := hv.tup_inv
  obtain ⟨u, hu, hrx⟩ := hall i x hxi
  refine ⟨d, x, u, h1, h2, hK, RV.of0 hrx, fun w' _ => ?_⟩
  simp [execOp, hop, hav, Instr.extract, hu]

theorem q_fld {d f : Nat} {y : Opd} (hr : Rel w T nt E a) (hm : mOp P nt o (.fld d y f) = true) (h : vq E H (.fld d y f) K) :
    ∃ d x u, o.dst = some d ∧ d < nt ∧ K d x ∧ RV w T x u ∧ Quiet P w false o a u := by
  obtain ⟨h1, h2, h3⟩ := mOp_dst hm rfl
  obtain ⟨t, x1, i, fs, fd, hu, hfd, hof, hsz, hx, hop⟩ : ∃ t x1 i, ∃ fs : Array Field, ∃ fd, P.underlying t = some (.struct fs) ∧ fs[i]? = some fd ∧ fd.offset = f ∧ aggT P fd.type = some false ∧ mOpd nt x1 y = true ∧ o.op = .field t x1 i := by
    generalize o.op = op' at *
    cases op' <;> first | (simp [mOp2, VOp.base, mOp1] at h3; done) | skip
    simp only [mOp2, VOp.base, mOp1, Bool.and_eq_true] at h3
    obtain ⟨h4, h6⟩ := h3
    split at h4 <;> first | (cases h4; done) | skip
    split at h4 <;> first | (cases h4; done) | skip
    simp only [Bool.and_eq_true, beq_iff_eq] at h4
    exact ⟨_, _, _, _, _, by assumption, by assumption, h4.1, h4.2, h6, rfl⟩
  obtain ⟨xs, hxs, x, hxi, hna, hK⟩ := h
  have hv := hr.ev hx
  rw [hxs] at hv
  obtain ⟨cs, hav, hl, hn, hrc⟩ := hv.agg_inv
  have hlt : f < cs.size := by rw [← hl]; exact (List.getElem?_eq_some_iff.1 hxi).1
  refine ⟨d, x, cs[f], h1, h2, hK, (hrc f x _ hxi (by simp [hlt])).rv hna, fun w' _ => ?_⟩
  have hp := aggT_false (P := P) hsz w'
  simp [execOp, hop, hav, Instr.field, run_underlying hu, hfd, asAgg, part, hp, hof, hlt]

theorem q_conv {d : Nat} {k : IntKind} {y : Opd} (hr : Rel w T nt E a) (hm : mOp P nt o (.conv d k y) = true) (h : vq E H (.conv d k y) K) :
    ∃ d x u, o.dst = some d ∧ d < nt ∧ K d x ∧ RV w T x u ∧ Quiet P w false o a u := by
  obtain ⟨h1, h2, h3⟩ := mOp_dst hm rfl
  obtain ⟨t, t2, x1, ds, ht, ht2, hx, hop⟩ : ∃ t t2 x1 ds, P.underlying t = some ds ∧ P.underlying t2 = some (.int k) ∧ mOpd nt x1 y = true ∧ o.op = .convert t t2 x1 := by
    generalize o.op = op' at *
    cases op' <;> first | (simp [mOp2, VOp.base, mOp1] at h3; done) | skip
    simp only [mOp2, VOp.base, mOp1, Bool.and_eq_true] at h3
    obtain ⟨⟨h4, h5⟩, h6⟩ := h3
    split at h5 <;> first | (cases h5; done) | skip
    rename_i j hj
    obtain ⟨ds, hds⟩ := Option.isSome_iff_exists.1 h4
    have : j = k := by simpa using h5
    subst this
    exact ⟨_, _, _, ds, hds, hj, h6, rfl⟩
  obtain ⟨j, n, hn, hK⟩ := h
  have hv := hr.ev hx
  rw [hn] at hv
  refine ⟨d, _, .int k (k.wrap n), h1, h2, hK, RC.int _ _, fun w' _ => ?_⟩
  have e := hv.int_inv
  cases ds <;> simp [execOp, hop, e, convert, run_underlying ht, run_underlying ht2, Conv.intToInt]

theorem q_nilck {d : Nat} {y : Opd} (hr : Rel w T nt E a) (hm : mOp P nt o (.nilck d y) = true) (h : vq E H (.nilck d y) K) :
    ∃ d x u, o.dst = some d ∧ d < nt ∧ K d x ∧ RV w T x u ∧ Quiet P w false o a u := by
  obtain ⟨h1, h2, h3⟩ := mOp_dst hm rfl
  obtain ⟨x1, hx, hop⟩ : ∃ x1, mOpd nt x1 y = true ∧ o.op = .nilCheck x1 := by
    generalize o.op = op' at *
    cases op' <;> first | (simp [mOp2, VOp.base, mOp1] at h3; done) | skip
    exact ⟨_, h3, rfl⟩
  have hv := hr.ev hx
  simp only [vq] at h
  generalize ev E y = vy at *
  cases vy <;> first | (exact h.elim) | skip
  · obtain ⟨g, off, cs, hav, _⟩ := hv.lptr_inv
    exact ⟨d, _, a.eval x1, h1, h2, h, hv, fun w' _ => by simp [execOp, hop, hav]⟩
  · have hav := hv.optr_inv
    exact ⟨d, _, a.eval x1, h1, h2, h, hv, fun w' _ => by simp [execOp, hop, hav]⟩
  · obtain ⟨cs, hav, _⟩ := hv.fn_inv
    exact ⟨d, _, a.eval x1, h1, h2, h, hv, fun w' _ => by simp [execOp, hop, hav]⟩
end
end Go.AVM
