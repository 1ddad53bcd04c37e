/- The quiet operations, the last four, and all of them in one law. -/
import Derived.Laws.BytesArg
import Derived.Laws.Cover3
import Derived.Test.YtnanbjnadkoekaaDoorVQ3
import Derived.Laws.Tables
namespace Go.AVM
set_option linter.unusedSimpArgs false
open Go.RowKit
set_option linter.unusedVariables false
section
variable {P : Program} {w : World} {T base : Nat → Prop} {nt : Nat} {E : Env} {H : Hp} {a : Act} {K : Nat → AV → Prop} {o : Oper}

theorem inv_slc0 {op : Op} {d : Nat} {y : Opd} (h : mOp1 P nt op (.slc0 d y) = true) :
    ∃ t x1 k1 k2 ti, elOf P t = some ti ∧ mOpd nt x1 y = true ∧ op = .slice t x1 none (some (.const (.int k1 0))) (some (.const (.int k2 0))) := by
  cases op <;> first | (simp [mOp2, VOp.base, mOp1] at h; done) | skip
  rename_i t x lo hi mx
  rcases lo with _ | lo <;> first | (simp [mOp2, VOp.base, mOp1] at h; done) | skip
  rcases hi with _ | hi <;> first | (simp [mOp2, VOp.base, mOp1] at h; done) | skip
  rcases mx with _ | mx <;> first | (simp [mOp2, VOp.base, mOp1] at h; done) | skip
  cases hi <;> first | (simp [mOp2, VOp.base, mOp1] at h; done) | skip
  cases mx <;> first | (simp [mOp2, VOp.base, mOp1] at h; done) | skip
  rename_i u v
  cases u <;> first | (simp [mOp2, VOp.base, mOp1] at h; done) | skip
  cases v <;> first | (simp [mOp2, VOp.base, mOp1] at h; done) | skip
  simp only [mOp2, VOp.base, mOp1, Bool.and_eq_true, decide_eq_true_eq] at h
  obtain ⟨⟨⟨rfl, rfl⟩, h4⟩, h5⟩ := h
  obtain ⟨ti, hti⟩ := Option.isSome_iff_exists.1 h4
  exact ⟨_, _, _, _, ti, hti, h5, rfl⟩

theorem ev_const (v : Value) : a.eval (.const v) = v := rfl

theorem q_slc0 {d : Nat} {y : Opd} (hr : Rel w T nt E a) (hm : mOp P nt o (.slc0 d y) = true) (h : vq E H (.slc0 d y) K) :
    ∃ d x u, o.dst = some d ∧ d < nt ∧ K d x ∧ RV w T x u ∧ Quiet P w false o a u := by
  obtain ⟨h1, h2, h3⟩ := mOp_dst hm rfl
  obtain ⟨t, x1, k1, k2, ti, hti, hx, hop⟩ := inv_slc0 h3
  obtain ⟨e, he, hi⟩ := elOf_spec hti
  have hvx := hr.ev hx
  simp only [vq] at h
  have key : ∃ ad len cap, a.eval x1 = .slice ad len cap := by
    generalize ev E y = vy at *
    cases vy <;> first | (exact h.elim) | skip
    · obtain ⟨ad, hav⟩ := hvx.emp_inv; exact ⟨ad, 0, 0, hav⟩
    · obtain ⟨ad, cap, _, _, hav, _⟩ := hvx.lsl_inv; exact ⟨ad, _, cap, hav⟩
    · obtain ⟨cap, hav, _⟩ := hvx.own_inv; exact ⟨_, _, cap, hav⟩
  have hK : K d .emp := by
    generalize ev E y = vy at *
    cases vy <;> first | (exact h.elim) | exact h
  obtain ⟨ad, len, cap, hav⟩ := key
  have hid : (Option.map (fun x : Addr => x.add 0) ad) = ad := by cases ad <;> simp [add_zero_addr]
  refine ⟨d, _, .slice ad 0 0, h1, h2, hK, RC.emp _, fun w' _ => ?_⟩
  simp [execOp, hop, hav, ev_const, Instr.sliceAt, Instr.slice, run_underlying he, Instr.sliceBounds, Instr.sliceBound, asIntOf, sizeOf, typeInfo, hi]

theorem q_mx {d : Nat} {gt : Bool} {y z : Opd} (hr : Rel w T nt E a) (hm : mOp P nt o (.mx d gt y z) = true) (h : vq E H (.mx d gt y z) K) :
    ∃ d x u, o.dst = some d ∧ d < nt ∧ K d x ∧ RV w T x u ∧ Quiet P w false o a u := by
  obtain ⟨h1, h2, h3⟩ := mOp_dst hm rfl
  obtain ⟨b, x1, x2, ts, hb, hx, hy, hop⟩ : ∃ b x1 x2 ts, (match b with | Builtin.max => gt | Builtin.min => !gt | _ => false) = true ∧ mOpd nt x1 y = true ∧ mOpd nt x2 z = true ∧ o.op = .call { callee := .builtin b, args := #[x1, x2], argTypes := ts } := by
    generalize o.op = op at *
    cases op <;> first | (simp [mOp2, VOp.base, mOp1] at h3; done) | skip
    rename_i c
    obtain ⟨cal, ⟨args⟩, ts⟩ := c
    cases cal <;> first | (simp [mOp2, VOp.base, mOp1] at h3; done) | skip
    rename_i bi
    rcases args with _ | ⟨x, _ | ⟨x2, _ | _⟩⟩ <;> first | (simp [mOp2, VOp.base, mOp1] at h3; done) | skip
    simp only [mOp2, VOp.base, mOp1, Bool.and_eq_true] at h3
    exact ⟨bi, x, x2, ts, h3.1, h3.2.1, h3.2.2, rfl⟩
  obtain ⟨k, m, n, hem, hen, hK⟩ := h
  have hvx := hr.ev hx
  have hvy := hr.ev hy
  rw [hem] at hvx
  rw [hen] at hvy
  refine ⟨d, _, _, h1, h2, hK, RC.int _ _, fun w' _ => ?_⟩
  cases b <;> simp at hb
  · subst hb
    simp [execOp, hop, resolve, invoke, builtin, hvx.int_inv, hvy.int_inv, Builtin.max_, Builtin.max2]
  · subst hb
    simp [execOp, hop, resolve, invoke, builtin, hvx.int_inv, hvy.int_inv, Builtin.min_, Builtin.min2]

theorem rv_cell {x : AV} {v : Value} (hv : RV w T x v) (hna : x.isAgg = false) (hz : x.sz = 1) : RC w T x [v] := hv.cell hna (by omega)

theorem q_mkf {d f : Nat} {ys : List Opd} (hr : Rel w T nt E a) (hm : mOp P nt o (.mkf d f ys) = true) (h : vq E H (.mkf d f ys) K) :
    ∃ d x u, o.dst = some d ∧ d < nt ∧ K d x ∧ RV w T x u ∧ Quiet P w false o a u := by
  obtain ⟨h1, h2, h3⟩ := mOp_dst hm rfl
  obtain ⟨first, caps, hf, hx, hop⟩ : ∃ first caps, first = #[] ∧ mOpds nt caps ys = true ∧ o.op = .makeFunc (.func f) first caps := by
    generalize o.op = op at *
    cases op <;> first | (simp [mOp2, VOp.base, mOp1] at h3; done) | skip
    rename_i fn first caps
    cases fn <;> first | (simp [mOp2, VOp.base, mOp1] at h3; done) | skip
    simp only [mOp2, VOp.base, mOp1, Bool.and_eq_true, beq_iff_eq] at h3
    exact ⟨first, caps, by simpa using h3.1.2, h3.2, by rw [h3.1.1]⟩
  subst hf
  obtain ⟨hall, hK⟩ := h
  obtain ⟨hl, hev⟩ := hr.evs hx
  refine ⟨d, _, .func (.func f) #[] (caps.map a.eval), h1, h2, hK, ?_, fun w' _ => by simp [execOp, hop, Instr.makeFunc]⟩
  have hto : (Value.func (Fn.func f) #[] (caps.map a.eval)) = .func (.func f) #[] (caps.map a.eval).toList.toArray := by rw [Array.toArray_toList]
  rw [hto]
  have := RC.fn (w := w) (T := T) f (ys.map (ev E)) (caps.map a.eval).toList (by simpa using hl.symm) (fun x hx => (hall x hx).1) (fun i x c hi hc => by
    obtain ⟨u, hu, hrv⟩ := hev i x hi
    have : u = c := by
      have hc' : (caps.map a.eval)[i]? = some c := by simpa using hc
      rw [hu] at hc'
      exact Option.some.inj hc'
    subst this
    have hx := hall x (List.mem_of_getElem? hi)
    exact rv_cell hrv hx.1 hx.2)
  exact this

/-- the cells of a struct's literal -/
theorem fill_ok {n : Nat} (zero : List Value) : ∀ (parts : List (Nat × Value)) (cs : Array Value), (∀ p ∈ parts, p.1 < n ∧ p.2.oneCell' = true) → cs.size = n → (parts.map (·.1)).Nodup →
    ∃ cs' : Array Value, Instr.fill (fun i => if i < n then some (i, 1) else none) cs parts = some cs' ∧ cs'.size = n ∧
      ∀ i, i < n → cs'[i]? = match parts.find? (·.1 == i) with | some p => some p.2 | none => cs[i]?
  | [], cs, _, hs, _ => ⟨cs, rfl, hs, fun i _ => by simp⟩
  | (j, v) :: rest, cs, hp, hs, hnd => by
    have hj := hp (j, v) (List.mem_cons_self)
    have hv : v.cells = #[v] := by
      have := hj.2
      cases v <;> simp_all [Value.cells, Value.oneCell']
    simp only [List.map_cons, List.nodup_cons] at hnd
    obtain ⟨cs', hc, hs', hall⟩ := fill_ok zero rest (cs.setIfInBounds j v) (fun p hp' => hp p (List.mem_cons_of_mem _ hp')) (by simpa using hs) hnd.2
    refine ⟨cs', ?_, hs', fun i hi => ?_⟩
    · simp only [Instr.fill, hj.1, if_true, hv]
      have : ¬ (j + 1 > cs.size) := by have := hj.1; simp at this; omega
      simp [this]
      exact hc
    · rw [hall i hi]
      by_cases hij : j = i
      · subst hij
        have hnone : rest.find? (·.1 == j) = none := by
          rw [List.find?_eq_none]
          intro p hp' he
          exact hnd.1 (List.mem_map.2 ⟨p, hp', by simpa using he⟩)
        have hjs : j < cs.size := by omega
        simp [hnone, hjs]
      · have : (j == i) = false := by simpa using hij
        simp [this]
        split
        · rfl
        · simp [Array.getElem?_setIfInBounds_ne hij]

theorem places_ok : ∀ (fs : List Field) (k : Nat), (∀ p ∈ fs.zipIdx k, p.1.offset = p.2 ∧ szT P p.1.type = some 1) →
    fs.mapM (fun f => (P.info? f.type).map fun i => (f.offset, i.size)) = some ((List.range' k fs.length).map fun i => (i, 1))
  | [], _, _ => by simp
  | f :: fs, k, h => by
    have h0 := h (f, k) (by simp)
    obtain ⟨i, hi, h1⟩ := Option.map_eq_some_iff.1 h0.2
    have ih := places_ok fs (k + 1) (fun p hp => h p (by simp [hp]))
    simp only [List.mapM_cons, hi, ih]
    have h2 : f.offset = k := h0.1
    simp [h2, h1, List.range'_succ]

theorem partsOk_spec {zero : List Value} {parts : List (Nat × Operand)} : ∀ (xs : List Opd) (k : Nat), partsOk nt zero parts k xs = true → ∀ (i : Nat) (x : Opd), xs[i]? = some x →
    (∃ p, parts.find? (·.1 == k + i) = some p ∧ mOpd nt p.2 x = true) ∨ (parts.find? (·.1 == k + i) = none ∧ ∃ z y, zero[k + i]? = some z ∧ x = .c y ∧ constV0 z y = true ∧ y.isAgg = false)
  | [], _, _, i, x, hx => by simp at hx
  | y :: xs, k, h, i, x, hx => by
    simp only [partsOk, Bool.and_eq_true] at h
    cases i with
    | zero =>
      obtain rfl : y = x := by simpa using hx
      simp only [Nat.add_zero]
      cases hf : parts.find? (·.1 == k) with
      | some p => rw [hf] at h; exact .inl ⟨p, rfl, h.1⟩
      | none =>
        rw [hf] at h
        refine .inr ⟨rfl, ?_⟩
        have h1 := h.1
        dsimp only at h1
        split at h1 <;> first | (cases h1; done) | skip
        simp only [Bool.and_eq_true, Bool.not_eq_true'] at h1
        exact ⟨_, _, by assumption, rfl, h1.1, h1.2⟩
    | succ i =>
      have := partsOk_spec xs (k + 1) h.2 i x (by simpa using hx)
      rw [show k + 1 + i = k + (i + 1) by omega] at this
      exact this

theorem find_map {parts : List (Nat × Operand)} (g : Operand → Value) (i : Nat) : (parts.map fun p => (p.1, g p.2)).find? (·.1 == i) = (parts.find? (·.1 == i)).map fun p => (p.1, g p.2) := by
  induction parts with
  | nil => rfl
  | cons p ps ih =>
    simp only [List.map_cons, List.find?_cons]
    split <;> simp_all

theorem q_bld {d : Nat} {ys : List Opd} (hr : Rel w T nt E a) (hm : mOp P nt o (.bld d ys) = true) (h : vq E H (.bld d ys) K) :
    ∃ d x u, o.dst = some d ∧ d < nt ∧ K d x ∧ RV w T x u ∧ Quiet P w false o a u := by
  obtain ⟨h1, h2, h3⟩ := mOp_dst hm rfl
  obtain ⟨t, parts, fs, ti, zs, hu, hi, hfl, hfs, hz, hzs, hpo, hnd, hlt, hop⟩ : ∃ t parts, ∃ fs : Array Field, ∃ ti, ∃ zs : Array Value, P.underlying t = some (.struct fs) ∧ P.info? t = some ti ∧ fs.size = ys.length ∧
      (∀ p ∈ fs.toList.zipIdx, p.1.offset = p.2 ∧ szT P p.1.type = some 1) ∧ ti.zero = some (.agg zs) ∧ zs.size = ys.length ∧ partsOk nt zs.toList parts.toList 0 ys = true ∧ (parts.toList.map (·.1)).Nodup ∧ (∀ p ∈ parts.toList, p.1 < ys.length) ∧ o.op = .build t parts := by
    generalize o.op = op at *
    cases op <;> first | (simp [mOp2, VOp.base, mOp1] at h3; done) | skip
    rename_i t parts
    simp only [mOp2, VOp.base, mOp1, Bool.and_eq_true, decide_eq_true_eq, List.all_eq_true] at h3
    obtain ⟨⟨h4, h5⟩, h6⟩ := h3
    split at h4 <;> first | (cases h4; done) | skip
    simp only [Bool.and_eq_true, beq_iff_eq, List.all_eq_true] at h4
    obtain ⟨⟨h7, h8⟩, h9⟩ := h4
    split at h9 <;> first | (cases h9; done) | skip
    simp only [Bool.and_eq_true, beq_iff_eq] at h9
    exact ⟨t, parts, _, _, _, by assumption, by assumption, h7, h8, by assumption, h9.1, h9.2, h5, h6, rfl⟩
  obtain ⟨hall, hK⟩ := h
  -- what stands in each place
  have hpl : ∀ (i : Nat) (y : Opd), ys[i]? = some y → ∃ u, (match parts.toList.find? (·.1 == i) with | some p => some (a.eval p.2) | none => zs[i]?) = some u ∧ RC w T (ev E y) [u] ∧ (ev E y).isAgg = false := by
    intro i y hy
    have hx := hall (ev E y) (List.mem_map.2 ⟨y, List.mem_of_getElem? hy, rfl⟩)
    rcases partsOk_spec ys 0 hpo i y hy with ⟨p, hp, hm'⟩ | ⟨hp, z, c, hz', rfl, hc, hna⟩
    · rw [Nat.zero_add] at hp
      rw [hp]
      exact ⟨_, rfl, rv_cell (hr.ev hm') hx.1 hx.2, hx.1⟩
    · rw [Nat.zero_add] at hp hz'
      rw [hp]
      exact ⟨z, by simpa using hz', constV0_ok hc, hx.1⟩
  have hone : ∀ p ∈ parts.toList.map (fun p => (p.1, a.eval p.2)), p.1 < ys.length ∧ p.2.oneCell' = true := by
    intro p hp
    obtain ⟨q, hq, rfl⟩ := List.mem_map.1 hp
    refine ⟨hlt q hq, ?_⟩
    have hq' : q.1 < ys.length := hlt q hq
    obtain ⟨u, hu', hrc, _⟩ := hpl q.1 ys[q.1] (List.getElem?_eq_getElem hq')
    have hf : parts.toList.find? (·.1 == q.1) = some q := by
      have hex : (parts.toList.find? (·.1 == q.1)).isSome = true := by
        rw [List.find?_isSome]
        exact ⟨q, hq, by simp⟩
      obtain ⟨q', hq'⟩ := Option.isSome_iff_exists.1 hex
      have he : q'.1 = q.1 := by simpa using List.find?_some hq'
      have hm' := List.mem_of_find?_eq_some hq'
      have : q' = q := by
        obtain ⟨i, hi⟩ := List.mem_iff_getElem?.1 hm'
        obtain ⟨j, hj⟩ := List.mem_iff_getElem?.1 hq
        have hmi : (parts.toList.map (·.1))[i]? = some q.1 := by rw [List.getElem?_map, hi]; simp [he]
        have hmj : (parts.toList.map (·.1))[j]? = some q.1 := by rw [List.getElem?_map, hj]; simp
        have hil := (List.getElem?_eq_some_iff.1 hmi).1
        have hij : i = j := (List.getElem?_inj hil hnd).1 (hmi.trans hmj.symm)
        subst hij
        rw [hi] at hj
        exact Option.some.inj hj
      rw [hq', this]
    rw [hf] at hu'
    obtain rfl : a.eval q.2 = u := Option.some.inj hu'
    exact hrc.one _ (List.mem_singleton.2 rfl)
  obtain ⟨cs, hfill, hcs, hcell⟩ := fill_ok (n := ys.length) [] (parts.toList.map fun p => (p.1, a.eval p.2)) zs hone hzs (by simpa [List.map_map, Function.comp_def] using hnd)
  have hplace := places_ok (P := P) fs.toList 0 hfs
  have hbuilt : P.built t (parts.toList.map fun p => (p.1, a.eval p.2)) = some cs := by
    simp only [Program.built, hi, hu, hz, hplace]
    rw [← hfill]
    have : (fun x => ((List.range' 0 fs.toList.length).map fun i => ((i, 1) : Nat × Nat)).toArray[x]?) = fun i => if i < ys.length then some (i, 1) else none := by
      funext i
      simp only [List.getElem?_toArray, List.getElem?_map]
      by_cases hi' : i < ys.length
      · rw [if_pos hi', List.getElem?_range' (by simpa [hfl] using hi')]
        simp
      · rw [if_neg hi', List.getElem?_eq_none (by simpa [hfl] using hi')]
        rfl
    rw [this]
    rfl
  refine ⟨d, _, .agg cs, h1, h2, hK, ⟨cs, rfl, ?_⟩, fun w' _ => ?_⟩
  · refine RC.agg _ _ (by simpa using hcs.symm) (fun f hf => (hall f hf).1) (fun i f c hf hc => ?_)
    rw [List.getElem?_map] at hf
    obtain ⟨y, hy, rfl⟩ := Option.map_eq_some_iff.1 hf
    have hlt' : i < ys.length := (List.getElem?_eq_some_iff.1 hy).1
    obtain ⟨u, hu', hrc, _⟩ := hpl i y hy
    have := hcell i hlt'
    rw [find_map] at this
    have hc' : cs[i]? = some c := by simpa using hc
    rw [hc'] at this
    cases hf' : parts.toList.find? (·.1 == i) with
    | some p =>
      rw [hf'] at this hu'
      simp only [Option.map_some] at this
      obtain rfl := Option.some.inj this
      obtain rfl : a.eval p.2 = u := Option.some.inj hu'
      exact hrc
    | none =>
      rw [hf'] at this hu'
      simp only [Option.map_none] at this
      change zs[i]? = some u at hu'
      rw [hu'] at this
      obtain rfl := Option.some.inj this
      exact hrc
  · have hb := run_build (P := P) w' t (parts.map fun (i, x) => (i, a.eval x)) cs (by simpa using hbuilt)
    simp only [execOp, hop, Sem.run_bind, hb]
    simp

theorem q_neg {d : Nat} {y : Opd} (hr : Rel w T nt E a) (hm : mOp P nt o (.neg d y) = true) (h : vq E H (.neg d y) K) :
    ∃ d x u, o.dst = some d ∧ d < nt ∧ K d x ∧ RV w T x u ∧ Quiet P w false o a u := by
  obtain ⟨h1, h2, h3⟩ := mOp_dst hm rfl
  obtain ⟨t, x, hx, hop⟩ : ∃ t x, mOpd nt x y = true ∧ o.op = .unOp .neg t x := by
    generalize o.op = op' at *
    cases op' <;> first | (simp [mOp2, VOp.base, mOp1] at h3; done) | skip
    rename_i op t x
    cases op <;> first | (simp [mOp2, VOp.base, mOp1] at h3; done) | skip
    exact ⟨t, x, h3, rfl⟩
  obtain ⟨k, n, hb, hK⟩ := h
  have hv := hr.ev hx
  rw [hb] at hv
  refine ⟨d, _, .int k (k.wrap (-n)), h1, h2, hK, RC.int _ _, fun w' _ => ?_⟩
  simp [execOp, hop, hv.int_inv, Op.unary, Op.intArith]

theorem q_isnil {d : Nat} {ne : Bool} {y : Opd} (hr : Rel w T nt E a) (hm : mOp P nt o (.isnil d ne y) = true) (h : vq E H (.isnil d ne y) K) :
    ∃ d x u, o.dst = some d ∧ d < nt ∧ K d x ∧ RV w T x u ∧ Quiet P w false o a u := by
  obtain ⟨h1, h2, h3⟩ := mOp_dst hm rfl
  obtain ⟨op, t, e, x1, t2, hx, hu, he, hop⟩ : ∃ op t e x1 t2, mOpd nt x1 y = true ∧ P.underlying t = some (.slice e) ∧ op = (if ne = true then .neq else .eql) ∧ o.op = .binOp op t x1 (.const (.slice none 0 0)) t2 := by
    generalize o.op = op' at *
    cases op' <;> first | (simp [mOp2, mNil] at h3; done) | skip
    rename_i op t x1 x2 t2
    simp only [mOp2, mNil, Bool.and_eq_true, decide_eq_true_eq] at h3
    obtain ⟨⟨⟨he, hu⟩, hx⟩, hy⟩ := h3
    unfold isSl at hu
    split at hu <;> first | (cases hu; done) | skip
    split at hy <;> first | (cases hy; done) | skip
    exact ⟨op, t, _, x1, t2, hx, by assumption, he, rfl⟩
  have hvx := hr.ev hx
  have run : ∀ (ad : Option Addr) (l1 c1 : Nat), a.eval x1 = .slice ad l1 c1 → ∀ w', (execOp a.eval o).run P w' = .ok (.value (.bool (if ne = true then !ad.isNone else ad.isNone))) w' := by
    intro ad l1 c1 hav w'
    subst he
    have e1 := run_equal_slice_nil (P := P) w' t e ad l1 c1 hu
    have ec : a.eval (.const (.slice none 0 0)) = .slice none 0 0 := rfl
    simp only [execOp, hop, hav, ec]
    cases ne <;> simp [eqGuard, binOp, e1]
  simp only [vq] at h
  generalize ev E y = vy at *
  cases vy <;> first | (exact h.elim) | skip
  · obtain ⟨ad, hav⟩ := hvx.emp_inv
    exact ⟨d, _, _, h1, h2, h _, RC.bool _, fun w' _ => run ad 0 0 hav w'⟩
  · rename_i t0 len xs
    obtain ⟨ad, cap, s, cells, hav, _, _, _, _, hne, ht, _⟩ := hvx.lsl_inv
    have some_case : ad ≠ none → K d (.bool ne) → ∃ d x u, o.dst = some d ∧ d < nt ∧ K d x ∧ RV w T x u ∧ Quiet P w false o a u := fun hs hK => by
      refine ⟨d, _, _, h1, h2, hK, RC.bool _, fun w' _ => ?_⟩
      have := run ad len cap hav w'
      have hn : ad.isNone = false := by cases ad <;> simp_all
      rw [hn] at this
      rw [this]
      cases ne <;> rfl
    cases t0 with
    | none =>
      cases xs with
      | nil => exact ⟨d, _, _, h1, h2, h _, RC.bool _, fun w' _ => run ad len cap hav w'⟩
      | cons x xs =>
        obtain ⟨g, off, ha, _⟩ := hne (by simp)
        exact some_case (by rw [ha]; simp) h
    | some p =>
      obtain ⟨_, _, ha, _⟩ := ht p.1 p.2 rfl
      exact some_case (by rw [ha]; simp) h
  · obtain ⟨cap, hav, _⟩ := hvx.own_inv
    refine ⟨d, _, _, h1, h2, h, RC.bool _, fun w' _ => ?_⟩
    rw [run _ _ _ hav w']
    cases ne <;> rfl

theorem u8s_spec : ∀ {xs : List AV} {ns : List Int}, u8s xs = some ns → xs = ns.map (.int .u8)
  | [], ns, h => by
    simp [u8s] at h
    subst h
    rfl
  | x :: xs, ns, h => by
    cases x <;> first | (simp [u8s] at h; done) | skip
    rename_i k n
    cases k <;> first | (simp [u8s] at h; done) | skip
    simp only [u8s] at h
    obtain ⟨ms, hms, rfl⟩ := Option.map_eq_some_iff.1 h
    rw [u8s_spec hms]
    rfl

theorem q_b2s {d : Nat} {y : Opd} (hH : ∀ d k, H d = some k → BOK w T base k) (hr : Rel w T nt E a) (hm : mOp P nt o (.b2s d y) = true) (h : vq E H (.b2s d y) K) :
    ∃ d x u, o.dst = some d ∧ d < nt ∧ K d x ∧ RV w T x u ∧ Quiet P w true o a u := by
  obtain ⟨h1, h2, h3⟩ := mOp_dst hm rfl
  obtain ⟨t, t2, e, x1, ht, he, ht2, hx, hop⟩ : ∃ t t2 e x1, P.underlying t = some (.slice e) ∧ P.underlying e = some (.int .u8) ∧ P.underlying t2 = some .string ∧ mOpd nt x1 y = true ∧ o.op = .convert t t2 x1 := by
    generalize o.op = op' at *
    cases op' <;> first | (simp [mOp2, VOp.base, mOp1] at h3; done) | skip
    simp only [mOp2, VOp.base, mOp1, Bool.and_eq_true] at h3
    obtain ⟨⟨h4, h5⟩, h6⟩ := h3
    split at h4 <;> first | (cases h4; done) | skip
    rename_i e he
    split at h4 <;> first | (cases h4; done) | skip
    rename_i he2
    unfold isStr at h5
    split at h5 <;> first | (cases h5; done) | skip
    exact ⟨_, _, _, _, he, he2, by assumption, h6, rfl⟩
  have hvx := hr.ev hx
  simp only [vq] at h
  generalize ev E y = vy at *
  cases vy <;> first | (exact h.elim) | skip
  rename_i d' b s len
  obtain ⟨k, hk, rfl, rfl, hs1, hl, ns, hns, hK⟩ := h
  obtain ⟨cap, hav, _⟩ := hvx.own_inv
  obtain ⟨hlow, hpos, c, e', hh, hlen, _, hall⟩ := hH d' k hk
  have hxs := u8s_spec hns
  have hnl : ns.length = len := by
    have := congrArg List.length hxs
    simp only [List.length_take, List.length_map] at this
    omega
  refine ⟨d, _, .string (bytesOf ns), h1, h2, hK, RC.str _, fun w' hb => ?_⟩
  have hcell : ∀ i, i < len → w'.cell? ⟨k.b, 0 + i, none⟩ = some (.int .u8 (ns.getD i 0)) := fun i hi => by
    have hx1 : k.xs[i]? = some (.int .u8 (ns.getD i 0)) := by
      have h0 : (k.xs.take len)[i]? = (ns.map (AV.int .u8))[i]? := by rw [hxs]
      rw [List.getElem?_take, if_pos hi, List.getElem?_map, List.getElem?_eq_getElem (l := ns) (i := i) (by omega)] at h0
      rw [h0]
      simp [List.getD_eq_getElem?_getD, List.getElem?_eq_getElem (show i < ns.length by omega)]
    obtain ⟨cs, g1, g2, g3⟩ := hall i _ hx1
    cases g2
    refine below_cell (hb rfl) ?_
    have := g3 0 _ rfl
    rw [hs1] at this
    simp only [Nat.mul_one, Nat.add_zero] at this
    simp only [World.cell?, hh, Nat.zero_add, this]
    simp
  have := run_convert_bytes_arg (P := P) w' t e ht he k.b 0 len cap ns hnl hcell t2 ht2
  simp only [execOp, hop, hav, Sem.run_bind, this, Result.andThen_ok]
  rfl

/-- Every quiet operation. -/
theorem vq_sound {vo : VOp} (hH : ∀ d k, H d = some k → BOK w T base k) (hr : Rel w T nt E a) (hm : mOp P nt o vo = true) (h : vq E H vo K) :
    ∃ d x u, o.dst = some d ∧ d < nt ∧ K d x ∧ RV w T x u ∧ Quiet P w vo.mem o a u := by
  cases vo <;> first
    | exact q_mv hr hm h
    | exact q_bin hr hm h
    | exact q_not hr hm h
    | exact q_pick hr hm h
    | exact q_len hr hm h
    | exact q_idx hr hm h
    | exact q_idxA hr hm h
    | exact q_fldA hr hm h
    | exact q_ld hH hr hm h
    | exact q_slc hH hr hm h
    | exact q_slc0 hr hm h
    | exact q_ext hr hm h
    | exact q_fld hr hm h
    | exact q_bld hr hm h
    | exact q_conv hr hm h
    | exact q_mx hr hm h
    | exact q_beq hr hm h
    | exact q_mkf hr hm h
    | exact q_nilck hr hm h
    | exact q_neg hr hm h
    | exact q_isnil hr hm h
    | exact q_b2s hH hr hm h
    | exact h.elim
end
end Go.AVM
