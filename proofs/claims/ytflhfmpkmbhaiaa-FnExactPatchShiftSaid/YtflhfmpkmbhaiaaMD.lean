/- The operations that make memory or write it. -/
import Derived.Test.YtflhfmpkmbhaiaaMA
namespace Go.AVM
set_option linter.unusedSimpArgs false
open Go.RowKit
set_option linter.unusedVariables false
section
variable {P : Program} {w0 w : World} {S : Sg} {nt n : Nat} {E : Env} {H : Hp} {a : Act} {o : Oper}

theorem SR.rel (h : SR w0 S nt E H n a w) : Rel w (Stb w0 S H w) nt E a := ⟨h.size, h.tm⟩

theorem put_size (a : Act) (d : Option Tmp) (v : Value) : (a.put d v).tmps.size = a.tmps.size := by
  cases d <;> simp [Act.put]
theorem put_defers (a : Act) (d : Option Tmp) (v : Value) : (a.put d v).defers = a.defers := by
  cases d <;> simp [Act.put]
theorem put_get (a : Act) (d : Nat) (v : Value) (t : Nat) (ht : t < a.tmps.size) : (a.put (some d) v).tmps.getD t undef = if t = d then v else a.tmps.getD t undef := by
  simp only [Act.put, Array.getD_eq_getD_getElem?]
  by_cases h : t = d
  · subst h
    simp [ht]
  · rw [if_neg h, Array.getElem?_setIfInBounds_ne (fun e => h e.symm)]

/-- The world has gone on, some of the own blocks with it, and one temporary has been written. -/
theorem SR.next {w' : World} {H' : Hp} {n' d : Nat} {x : AV} {u : Value} (h : SR w0 S nt E H n a w) (hb : Bel w0 S w') (hon : On w w' (Stb w0 S H w) (Stb w0 S H' w')) (hn : n' ≤ w'.heap.size) (hnn : w0.heap.size ≤ n')
    (hu : RV w' (Stb w0 S H' w') x u) (hblk : ∀ d k, H' d = some k → BOK w' (Stb w0 S H' w') (Mine w0 S) k) (hinj : ∀ d d' k k', H' d = some k → H' d' = some k' → k.b = k'.b → d = d') :
    SR w0 S nt (upd E d x) H' n' (a.put (some d) u) w' where
  defs := by rw [put_defers]; exact h.defs
  size := by rw [put_size]; exact h.size
  bel := hb
  nle := hn
  nge := hnn
  tm := fun t ht => by
    rw [put_get a d u t (by rw [h.size]; exact ht)]
    unfold upd
    by_cases e : t = d
    · rw [if_pos e, if_pos e]; exact hu
    · rw [if_neg e, if_neg e]; exact (h.tm t ht).mono hon
  blk := hblk
  inj := hinj

theorem SR.put {d : Nat} {x : AV} {u : Value} (h : SR w0 S nt E H n a w) (hu : RV w (Stb w0 S H w) x u) : SR w0 S nt (upd E d x) H n (a.put (some d) u) w :=
  h.next h.bel ⟨fun _ hg => ⟨hg, rfl⟩, fun _ c _ hc => ⟨c, hc, rfl⟩⟩ h.nle h.nge hu h.blk h.inj

theorem SR.quiet_world {w' : World} (h : SR w0 S nt E H n a w) (hb : Below w.heap.size w w') : SR w0 S nt E H n a w' := by
  have hon : On w w' (Stb w0 S H w) (Stb w0 S H w') := ⟨fun g hg => ⟨⟨hg.1, Nat.lt_of_lt_of_le hg.2.1 hb.size, hg.2.2⟩, hb.block g hg.2.1⟩, fun g c e hg => ⟨c, (hb.block g (Array.getElem?_eq_some_iff.1 hg).1).trans hg, rfl⟩⟩
  refine ⟨h.defs, h.size, h.bel.on hb, Nat.le_trans h.nle hb.size, h.nge, fun t ht => (h.tm t ht).mono hon, fun d k hk => ?_, h.inj⟩
  obtain ⟨h1, h2, c, e, hh, hl, hex, hall⟩ := h.blk d k hk
  refine ⟨h1, h2, c, e, (hb.block _ (Array.getElem?_eq_some_iff.1 hh).1).trans hh, hl, hex, fun i x hi => ?_⟩
  obtain ⟨cs, h3, h4, h5⟩ := hall i x hi
  exact ⟨cs, h3, h4.mono hon, h5⟩

theorem updH_some {H : Hp} {d d' : Nat} {v : Option Blk} {k : Blk} (h : updH H d v d' = some k) : (d' = d ∧ v = some k) ∨ (d' ≠ d ∧ H d' = some k) := by
  unfold updH at h
  by_cases e : d' = d
  · rw [if_pos e] at h; exact .inl ⟨e, h⟩
  · rw [if_neg e] at h; exact .inr ⟨e, h⟩

theorem BOK.mono {w' : World} {T T' : Nat → Prop} {base : Nat → Prop} {k : Blk} (h : BOK w T base k) (hon : On w w' T T') (hh : w'.heap[k.b]? = w.heap[k.b]?) : BOK w' T' base k := by
  obtain ⟨h1, h2, c, e, hc, hl, hex, hall⟩ := h
  refine ⟨h1, h2, c, e, hh.trans hc, hl, hex, fun i x hi => ?_⟩
  obtain ⟨cs, h3, h4, h5⟩ := hall i x hi
  exact ⟨cs, h3, h4.mono hon, h5⟩
theorem BOK.lt {T : Nat → Prop} {base : Nat → Prop} {k : Blk} (h : BOK w T base k) : k.b < w.heap.size := by
  obtain ⟨_, _, c, e, hc, _⟩ := h
  exact (Array.getElem?_eq_some_iff.1 hc).1

/-- A new block, under a key. (dr: the order's or a capacity's draw.) -/
theorem SR.alloc {d dk : Nat} {x : AV} {u : Value} {k : Blk} {c : Array Value} {e : TypeId} {w1 : World} (h : SR w0 S nt E H n a w) (hw1 : Below w.heap.size w w1) (hsz : w1.heap.size = w.heap.size) (hkb : k.b = w.heap.size) (hs : 0 < k.s)
    (hl : k.xs.length * k.s ≤ c.size) (hex : k.ex = true → c.size = k.xs.length * k.s) (hall : ∀ T, (∀ g, Stb w0 S H w g → T g) → ∀ (i : Nat) (x : AV), k.xs[i]? = some x → ∃ cs : List Value, cs.length = k.s ∧ RC (w1.alloc (.cells c e)) T x cs ∧ ∀ (j : Nat) (v : Value), cs[j]? = some v → c[i * k.s + j]? = some v)
    (hu : ∀ T, RV (w1.alloc (.cells c e)) T x u) {n' : Nat} (hn : n' ≤ w.heap.size + 1) (hn0 : n ≤ n') :
    SR w0 S nt (upd E d x) (updH H dk (some k)) n' (a.put (some d) u) (w1.alloc (.cells c e)) := by
  have hb : Below w.heap.size w (w1.alloc (.cells c e)) := hw1.alloc (by omega) _
  have hT : ∀ g, Stb w0 S H w g → Stb w0 S (updH H dk (some k)) (w1.alloc (.cells c e)) g := fun g hg => by
    refine ⟨hg.1, Nat.lt_of_lt_of_le hg.2.1 hb.size, fun d' k' hk' hf => ?_⟩
    rcases updH_some hk' with ⟨_, he⟩ | ⟨_, he⟩
    · obtain rfl := Option.some.inj he
      have := hg.2.1
      omega
    · exact hg.2.2 d' k' he hf
  have hon : On w (w1.alloc (.cells c e)) (Stb w0 S H w) (Stb w0 S (updH H dk (some k)) (w1.alloc (.cells c e))) :=
    ⟨fun g hg => ⟨hT g hg, hb.block g hg.2.1⟩, fun g c' e' hg => ⟨c', (hb.block g (Array.getElem?_eq_some_iff.1 hg).1).trans hg, rfl⟩⟩
  refine h.next (h.bel.on hb) hon (by simp [hsz]; omega) (Nat.le_trans h.nge hn0) (hu _) (fun d' k' hk' => ?_) (fun d1 d2 k1 k2 e1 e2 he => ?_)
  · rcases updH_some hk' with ⟨_, he⟩ | ⟨_, he⟩
    · obtain rfl := Option.some.inj he
      refine ⟨?_, hs, c, e, ?_, hl, hex, hall _ hT⟩
      · refine .inr ?_; have := h.bel.size; omega
      · rw [hkb, ← hsz]; exact heap_alloc_new w1 _
    · exact (h.blk d' k' he).mono hon (hb.block _ (h.blk d' k' he).lt)
  · rcases updH_some e1 with ⟨h1, g1⟩ | ⟨h1, g1⟩ <;> rcases updH_some e2 with ⟨h2, g2⟩ | ⟨h2, g2⟩
    · rw [h1, h2]
    · obtain rfl := Option.some.inj g1
      have := (h.blk d2 k2 g2).lt
      omega
    · obtain rfl := Option.some.inj g2
      have := (h.blk d1 k1 g1).lt
      omega
    · exact h.inj d1 d2 k1 k2 g1 g2 he

theorem on_alloc (w : World) (o : Obj) (T : Nat → Prop) (hT : ∀ g, T g → g < w.heap.size) : On w (w.alloc o) T T :=
  On.of_below hT ((Below.refl _ _).alloc (Nat.le_refl _) o)

theorem stb_on {T : Nat → Prop} {w' : World} (hb : Below w.heap.size w w') (hT : ∀ g, Stb w0 S H w g → T g) : On w w' (Stb w0 S H w) T :=
  ⟨fun g hg => ⟨hT g hg, hb.block g hg.2.1⟩, fun g c' e' hg => ⟨c', (hb.block g (Array.getElem?_eq_some_iff.1 hg).1).trans hg, rfl⟩⟩

/-- The outcome of an operation: it gives a value, or nothing, and what follows holds. -/
def Goes (P : Program) (w0 : World) (S : Sg) (nt : Nat) (o : Oper) (a : Act) (w : World) (grows : Bool) (K : Env → Hp → Nat → Prop) : Prop :=
  ∀ (next : Act → World → Prop) (Q : Exit → Act → World → Prop),
    (∀ E' H' n' a' w', SR w0 S nt E' H' n' a' w' → K E' H' n' → (grows = true → Below w.heap.size w w') → next a' w') → o.wp P a w next Q

theorem Goes.value {grows : Bool} {K : Env → Hp → Nat → Prop} {d : Nat} {v : Value} {w' : World} {E' : Env} {H' : Hp} {n' : Nat} (hd : o.dst = some d) (hrun : (execOp a.eval o).run P w = .ok (.value v) w') (hs : SR w0 S nt E' H' n' (a.put (some d) v) w') (hK : K E' H' n') (hg : grows = true → Below w.heap.size w w') :
    Goes P w0 S nt o a w grows K := by
  intro next Q hnext
  unfold Oper.wp
  rw [hrun, Oper.upon_value, hd]
  exact hnext _ _ _ _ _ hs hK hg
theorem Goes.skip {grows : Bool} {K : Env → Hp → Nat → Prop} {w' : World} {E' : Env} {H' : Hp} {n' : Nat} (hd : o.dst = none) (hrun : (execOp a.eval o).run P w = .ok .skip w') (hs : SR w0 S nt E' H' n' a w') (hK : K E' H' n') (hg : grows = true → Below w.heap.size w w') :
    Goes P w0 S nt o a w grows K := by
  intro next Q hnext
  unfold Oper.wp
  rw [hrun, Oper.upon_skip, hd]
  exact hnext _ _ _ _ _ hs hK hg

theorem zeroOk_spec {i : TypeInfo} {s : Nat} {z : AV} (h : zeroOk i s z = true) : i.size = s ∧ 0 < s ∧ ∃ v, i.zero = some v ∧ constV v z = true ∧ v.cells.size = s := by
  simp only [zeroOk, Bool.and_eq_true, beq_iff_eq, decide_eq_true_eq] at h
  obtain ⟨⟨h1, h2⟩, h3⟩ := h
  split at h3
  · simp only [Bool.and_eq_true, beq_iff_eq] at h3
    exact ⟨h1, h2, _, by assumption, h3.1, h3.2⟩
  · cases h3

theorem a_alc {d s : Nat} {z : AV} {K : Env → Hp → Nat → Prop} {L : Laws} (h : SR w0 S nt E H n a w) (hm : mOp P nt o (.alc d s z) = true) (hv : va L E H n (.alc d s z) K) : Goes P w0 S nt o a w true K := by
  obtain ⟨h1, h2, h3⟩ := mOp_dst hm rfl
  obtain ⟨e, ti, hi, hz, hop⟩ : ∃ e ti, P.info? e = some ti ∧ zeroOk ti s z = true ∧ o.op = .alloc e := by
    generalize o.op = op at *
    cases op <;> first | (simp [mOp2, VOp.base, mOp1] at h3; done) | skip
    simp only [mOp2, VOp.base, mOp1] at h3
    split at h3
    · exact ⟨_, _, by assumption, h3, rfl⟩
    · cases h3
  obtain ⟨hts, hs0, v, hzv, hcv, hvs⟩ := zeroOk_spec hz
  obtain ⟨hzs, hK⟩ := hv
  have hrun : (execOp a.eval o).run P w = .ok (.value (.pointer (some ⟨w.heap.size, 0, none⟩))) (w.alloc (.cells v.cells e)) := by
    simp [execOp, hop, Instr.alloc, zeroValue, typeInfo, hi, hzv, newVar, newRow]
  refine Goes.value h1 hrun (SR.alloc (k := ⟨w.heap.size, s, [z], false, false, false⟩) h (Below.refl _ _) rfl rfl hs0 (by simp [hvs]) (by simp) (fun T hT i x hi => ?_) (fun T => ?_) (Nat.le_refl _) (Nat.le_succ_of_le h.nle)) (hK _ h.nle) (fun _ => (Below.refl _ _).alloc (Nat.le_refl _) _)
  · have h0 : i = 0 ∧ x = z := by
      cases i with
      | zero => simpa using hi.symm
      | succ i => simp at hi
    obtain ⟨rfl, rfl⟩ := h0
    exact ⟨v.cells.toList, by simpa using hvs, (constV_cells hcv).1, fun j u hj => by simpa using hj⟩
  · have := RC.optr (w := w.alloc (.cells v.cells e)) (T := T) d w.heap.size s 0 none
    simpa [RV, RV0] using this

theorem a_box {d s : Nat} {y : Opd} {K : Env → Hp → Nat → Prop} {L : Laws} (h : SR w0 S nt E H n a w) (hm : mOp P nt o (.box d s y) = true) (hv : va L E H n (.box d s y) K) : Goes P w0 S nt o a w true K := by
  obtain ⟨h1, h2, h3⟩ := mOp_dst hm rfl
  obtain ⟨e, x1, hx, hop⟩ : ∃ e x1, mOpd nt x1 y = true ∧ o.op = .box e x1 := by
    generalize o.op = op at *
    cases op <;> first | (simp [mOp2, VOp.base, mOp1] at h3; done) | skip
    exact ⟨_, _, h3, rfl⟩
  obtain ⟨hzs, hs0, hK⟩ := hv
  have hvx := h.rel.ev hx
  obtain ⟨hrc, hcs⟩ := hvx.cells (by omega)
  have hrun : (execOp a.eval o).run P w = .ok (.value (.pointer (some ⟨w.heap.size, 0, none⟩))) (w.alloc (.cells (a.eval x1).cells e)) := by
    simp [execOp, hop, Instr.box, newVar, newRow]
  have hb : Below w.heap.size w (w.alloc (.cells (a.eval x1).cells e)) := (Below.refl _ _).alloc (Nat.le_refl _) _
  refine Goes.value h1 hrun (SR.alloc (k := ⟨w.heap.size, s, [ev E y], false, false, false⟩) h (Below.refl _ _) rfl rfl hs0 (by simp [hcs, hzs]) (by simp) (fun T hT i x hi => ?_) (fun T => ?_) (Nat.le_refl _) (Nat.le_succ_of_le h.nle)) (hK _ h.nle) (fun _ => hb)
  · have h0 : i = 0 ∧ x = ev E y := by
      cases i with
      | zero => simpa using hi.symm
      | succ i => simp at hi
    obtain ⟨rfl, rfl⟩ := h0
    exact ⟨(a.eval x1).cells.toList, by simp [hcs, hzs], hrc.mono (stb_on hb hT), fun j u hj => by simpa using hj⟩
  · have := RC.optr (w := w.alloc (.cells (a.eval x1).cells e)) (T := T) d w.heap.size s 0 none
    simpa [RV, RV0] using this

/-- cells of zeros -/
theorem made_get (z : Array Value) (m i j : Nat) (hz : 0 < z.size) (hi : i < m) (hj : j < z.size) : (madeCells z (m * z.size))[i * z.size + j]? = z[j]? := by
  have hlt : i * z.size + j < m * z.size := by
    calc i * z.size + j < i * z.size + z.size := by omega
      _ = (i + 1) * z.size := by rw [Nat.add_mul, Nat.one_mul]
      _ ≤ m * z.size := Nat.mul_le_mul_right _ hi
  have hmod : (i * z.size + j) % z.size = j := by rw [Nat.mul_comm, Nat.mul_add_mod, Nat.mod_eq_of_lt hj]
  simp [madeCells, hlt, hmod, getElem!_pos z j hj]

theorem a_mks {d s bytes : Nat} {m : Opd} {z : AV} {K : Env → Hp → Nat → Prop} {L : Laws} (h : SR w0 S nt E H n a w) (hm : mOp P nt o (.mks d s m z bytes) = true) (hv : va L E H n (.mks d s m z bytes) K) : Goes P w0 S nt o a w true K := by
  obtain ⟨h1, h2, h3⟩ := mOp_dst hm rfl
  obtain ⟨t, x1, x2, ti, hti, hby, hz, hx, hy, hop⟩ : ∃ t x1 x2 ti, elOf P t = some ti ∧ ti.bytes = bytes ∧ zeroOk ti s z = true ∧ mOpd nt x1 m = true ∧ mOpd nt x2 m = true ∧ o.op = .makeSlice t x1 x2 := by
    generalize o.op = op at *
    cases op <;> first | (simp [mOp2, VOp.base, mOp1] at h3; done) | skip
    simp only [mOp2, VOp.base, mOp1, Bool.and_eq_true] at h3
    obtain ⟨⟨h4, h5⟩, h6⟩ := h3
    split at h4 <;> first | (cases h4; done) | skip
    simp only [Bool.and_eq_true, beq_iff_eq] at h4
    exact ⟨_, _, _, _, by assumption, h4.1, h4.2, h5, h6, rfl⟩
  obtain ⟨e, he, hi⟩ := elOf_spec hti
  obtain ⟨hts, hs0, v, hzv, hcv, hvs⟩ := zeroOk_spec hz
  obtain ⟨k, l, hel, hl0, hlb, hl2, kk, hK⟩ := hv
  have e1 := (h.rel.ev hx)
  have e2 := (h.rel.ev hy)
  rw [hel] at e1 e2
  have hmk := run_make (P := P) w t e ti v he hi hzv k k l l hl0 (Int.le_refl _) (by rw [hby, Int.mul_comm]; omega) (by omega)
  have hrun : (execOp a.eval o).run P w = .ok (.value (.slice (some ⟨w.heap.size, 0, none⟩) l.toNat l.toNat)) (w.alloc (.cells (madeCells v.cells (l.toNat * ti.size)) e)) := by
    simp only [execOp, hop, e1.int_inv, e2.int_inv, Sem.run_bind, hmk]
    rfl
  have hb : Below w.heap.size w (w.alloc (.cells (madeCells v.cells (l.toNat * ti.size)) e)) := (Below.refl _ _).alloc (Nat.le_refl _) _
  refine Goes.value h1 hrun (SR.alloc (k := ⟨w.heap.size, s, List.replicate l.toNat z, false, true, true⟩) h (Below.refl _ _) rfl rfl hs0 (by simp [size_madeCells, hts]) (fun _ => by simp [size_madeCells, hts]) (fun T hT i x hi' => ?_) (fun T => ?_) (Nat.le_refl _) (Nat.le_succ_of_le h.nle)) (hK _ h.nle) (fun _ => hb)
  · obtain ⟨hlt, rfl⟩ : i < l.toNat ∧ x = z := by
      rw [List.getElem?_replicate] at hi'
      split at hi'
      · exact ⟨by assumption, (Option.some.inj hi').symm⟩
      · cases hi'
    refine ⟨v.cells.toList, by simpa using hvs, (constV_cells hcv).1, fun j u hj => ?_⟩
    have hj' : v.cells[j]? = some u := by simpa using hj
    have hjl := (Array.getElem?_eq_some_iff.1 hj').1
    have := made_get v.cells l.toNat i j (by omega) hlt hjl
    show (madeCells v.cells (l.toNat * ti.size))[i * s + j]? = some u
    rw [hts, ← hvs, this, hj']
  · refine RC.own (kk w.heap.size) w.heap.size s l.toNat l.toNat (Nat.le_refl _) (by simp only [maxLen]; omega) ⟨_, e, heap_alloc_new w _, ?_⟩
    simp [size_madeCells, hts]
end
end Go.AVM

/- Own rows made firm; literals of slices; stores; appends. -/
namespace Go.AVM
set_option linter.unusedSimpArgs false
open Go.RowKit
set_option linter.unusedVariables false
section
variable {P : Program} {w0 w : World} {S : Sg} {nt n : Nat} {E : Env} {H : Hp} {a : Act} {o : Oper}

theorem on_same {T T' : Nat → Prop} (h : ∀ g, T g → T' g) : On w w T T' := ⟨fun g hg => ⟨h g hg, rfl⟩, fun _ c _ hc => ⟨c, hc, rfl⟩⟩

theorem stb_drop {d : Nat} {g : Nat} (h : Stb w0 S H w g) : Stb w0 S (updH H d none) w g := by
  refine ⟨h.1, h.2.1, fun d' k hk hf => ?_⟩
  rcases updH_some hk with ⟨_, e⟩ | ⟨_, e⟩
  · cases e
  · exact h.2.2 d' k e hf

theorem SR.drop {d : Nat} (h : SR w0 S nt E H n a w) : SR w0 S nt E (updH H d none) n a w := by
  have hon : On w w (Stb w0 S H w) (Stb w0 S (updH H d none) w) := on_same fun g => stb_drop
  refine ⟨h.defs, h.size, h.bel, h.nle, h.nge, fun t ht => (h.tm t ht).mono hon, fun d' k hk => ?_, fun d1 d2 k1 k2 e1 e2 he => ?_⟩
  · rcases updH_some hk with ⟨_, e⟩ | ⟨_, e⟩
    · cases e
    · exact (h.blk d' k e).mono hon rfl
  · rcases updH_some e1 with ⟨_, e⟩ | ⟨_, g1⟩
    · cases e
    rcases updH_some e2 with ⟨_, e⟩ | ⟨_, g2⟩
    · cases e
    exact h.inj d1 d2 k1 k2 g1 g2 he

theorem stb_sub {H1 : Hp} (hs : ∀ d k, H1 d = some k → H d = some k) {g : Nat} (h : Stb w0 S H w g) : Stb w0 S H1 w g :=
  ⟨h.1, h.2.1, fun d k hk hf => h.2.2 d k (hs d k hk) hf⟩
theorem SR.sub {H1 : Hp} (h : SR w0 S nt E H n a w) (hs : ∀ d k, H1 d = some k → H d = some k) : SR w0 S nt E H1 n a w :=
  ⟨h.defs, h.size, h.bel, h.nle, h.nge, fun t ht => (h.tm t ht).mono (on_same fun g hg => stb_sub hs hg), fun d k hk => (h.blk d k (hs d k hk)).mono (on_same fun g hg => stb_sub hs hg) rfl, fun d1 d2 k1 k2 e1 e2 he => h.inj d1 d2 k1 k2 (hs _ _ e1) (hs _ _ e2) he⟩
/-- A row of one's own, made firm. -/
theorem own_firm {d b s len : Nat} {v : Value} {k : Blk} (h : SR w0 S nt E H n a w) (hu : RV w (Stb w0 S H w) (.own d b s len) v) (hk : H d = some k) (hb : k.b = b) (hs : k.s = s) (hl : len ≤ k.xs.length) :
    RC w (Stb w0 S (updH H d none) w) (.lsl (some (b, s)) len k.xs) [v] := by
  subst hb hs
  obtain ⟨cap, rfl, hlc, hcm, c, e, hh, hcs⟩ := hu.own_inv
  obtain ⟨hlow, hpos, c2, e2, hh2, hlen, _, hall⟩ := h.blk d k hk
  rw [hh2] at hh
  injection hh with hh
  injection hh with hh he _
  subst hh
  have hxc : k.xs.length ≤ cap := by
    rw [hcs] at hlen
    exact Nat.le_of_mul_le_mul_right hlen hpos
  have hT : Stb w0 S (updH H d none) w k.b := by
    refine ⟨.inr hlow, (h.blk d k hk).lt, fun d' k' hk' hf he' => ?_⟩
    rcases updH_some hk' with ⟨_, e⟩ | ⟨hne, e⟩
    · cases e
    · exact hne (h.inj d' d k' k e hk he')
  have hon : On w w (Stb w0 S H w) (Stb w0 S (updH H d none) w) := on_same fun g => stb_drop
  let cells : Nat → List Value := fun i => (c2.toList.drop (i * k.s)).take k.s
  have hcell : ∀ (i : Nat) (x : AV), k.xs[i]? = some x → (cells i).length = k.s ∧ RC w (Stb w0 S (updH H d none) w) x (cells i) := by
    intro i x hi
    obtain ⟨cs, h3, h4, h5⟩ := hall i x hi
    have : cells i = cs := by
      apply List.ext_getElem?
      intro j
      simp only [cells, List.getElem?_take, List.getElem?_drop]
      by_cases hj : j < k.s
      · rw [if_pos hj]
        have hj' : j < cs.length := by omega
        have := h5 j cs[j] (List.getElem?_eq_getElem hj')
        rw [List.getElem?_eq_getElem hj', ← this]
        simp
      · rw [if_neg hj, List.getElem?_eq_none (by omega)]
    rw [this]
    exact ⟨h3, h4.mono hon⟩
  refine RC.lsl (some (k.b, k.s)) len cap k.s k.xs _ cells hlc hl hxc hcm (fun _ => ⟨k.b, 0, rfl, hT, fun i x hi => ⟨(hcell i x hi).1, fun j v hj => ?_⟩⟩) (fun b s' hbs => ?_) (fun i x hi => (hcell i x hi).2)
  · simp only [cells, List.getElem?_take, List.getElem?_drop] at hj
    split at hj <;> first | (cases hj; done) | skip
    simp only [World.cell?, hh2, Nat.zero_add]
    simpa using hj
  · obtain ⟨rfl, rfl⟩ : k.b = b ∧ k.s = s' := by simpa using hbs
    exact ⟨rfl, hT, rfl, c2, e2, hh2, hcs⟩

theorem sol1_ok {x : AV} {v : Value} {K : AV → Hp → Prop} (h : SR w0 S nt E H n a w) (hu : RV w (Stb w0 S H w) x v) (hs : sol1 H x K) :
    ∃ x' H', K x' H' ∧ SR w0 S nt E H' n a w ∧ (∀ g, Stb w0 S H w g → Stb w0 S H' w g) ∧ RC w (Stb w0 S H' w) x' [v] ∧ x'.isAgg = false ∧ x'.sz = 1 := by
  cases x <;> first
    | (exact hs.elim)
    | exact ⟨_, H, hs, h, fun _ hg => hg, hu.cell rfl (by simp [AV.sz]), rfl, rfl⟩
    | skip
  obtain ⟨k, hk, hb, hss, hl, hK⟩ := hs
  exact ⟨_, _, hK, h.drop, fun g => stb_drop, own_firm h hu hk hb hss hl, rfl, rfl⟩

theorem sols_ok : ∀ (fs : List AV) (cs : List Value) {H : Hp} {K : List AV → Hp → Prop}, SR w0 S nt E H n a w → fs.length = cs.length → (∀ f ∈ fs, f.isAgg = false) → (∀ (i : Nat) (f : AV) (c : Value), fs[i]? = some f → cs[i]? = some c → RC w (Stb w0 S H w) f [c]) → sols H fs K →
    ∃ fs' H', K fs' H' ∧ SR w0 S nt E H' n a w ∧ (∀ g, Stb w0 S H w g → Stb w0 S H' w g) ∧ fs'.length = cs.length ∧ (∀ f ∈ fs', f.isAgg = false) ∧ ∀ (i : Nat) (f : AV) (c : Value), fs'[i]? = some f → cs[i]? = some c → RC w (Stb w0 S H' w) f [c]
  | [], cs, H, K, h, hl, _, _, hs => ⟨[], H, hs, h, fun _ hg => hg, hl, by simp, by simp⟩
  | f :: fs, [], H, K, h, hl, _, _, hs => by simp at hl
  | f :: fs, c :: cs, H, K, h, hl, hn, hrc, hs => by
    have h0 := hrc 0 f c rfl rfl
    obtain ⟨f', H1, hs1, hsr1, hst1, hr1, hna1, _⟩ := sol1_ok h (h0.rv (hn f (List.mem_cons_self))) hs
    obtain ⟨fs', H2, hK, hsr2, hst2, hl2, hn2, hr2⟩ := sols_ok fs cs hsr1 (by simpa using hl) (fun g hg => hn g (List.mem_cons_of_mem _ hg)) (fun i g c' hg hc => (hrc (i + 1) g c' hg hc).mono (on_same hst1)) hs1
    refine ⟨f' :: fs', H2, hK, hsr2, fun g hg => hst2 g (hst1 g hg), by simpa using hl2, fun g hg => ?_, fun i g c' hg hc => ?_⟩
    · rcases List.mem_cons.1 hg with rfl | hg
      · exact hna1
      · exact hn2 g hg
    · cases i with
      | zero =>
        obtain rfl : f' = g := by simpa using hg
        obtain rfl : c = c' := by simpa using hc
        exact hr1.mono (on_same hst2)
      | succ i => exact hr2 i g c' (by simpa using hg) (by simpa using hc)

theorem sol_ok {x : AV} {v : Value} {K : AV → Hp → Prop} (h : SR w0 S nt E H n a w) (hu : RV w (Stb w0 S H w) x v) (hs : sol H x K) :
    ∃ x' H', K x' H' ∧ SR w0 S nt E H' n a w ∧ (∀ g, Stb w0 S H w g → Stb w0 S H' w g) ∧ RV w (Stb w0 S H' w) x' v ∧ (∀ vs, x' ≠ .tup vs) ∧ x' ≠ .undef := by
  cases hx : x with
  | agg fs =>
    subst hx
    obtain ⟨cs, rfl, hl, hn, hrc⟩ := hu.agg_inv
    obtain ⟨fs', H', hK, h1, h2, h3, h4, h5⟩ := sols_ok fs cs.toList h (by simpa using hl) hn (fun i f c hf hc => hrc i f c hf (by simpa using hc)) hs
    exact ⟨_, H', hK, h1, h2, ⟨cs, rfl, .agg _ _ h3 h4 h5⟩, by simp, by simp⟩
  | _ =>
    subst hx
    obtain ⟨x', H', hK, h1, h2, h3, h4, h5⟩ := sol1_ok h hu hs
    exact ⟨x', H', hK, h1, h2, h3.rv h4, (by rintro vs rfl; cases h3), (by rintro rfl; simp [AV.sz] at h5)⟩

theorem solE_ok : ∀ (xs : List AV) (vs : List Value) {H : Hp} {K : List AV → Hp → Prop}, SR w0 S nt E H n a w → xs.length = vs.length → (∀ (i : Nat) (x : AV) (v : Value), xs[i]? = some x → vs[i]? = some v → RV w (Stb w0 S H w) x v) → solE H xs K →
    ∃ ys H', K ys H' ∧ SR w0 S nt E H' n a w ∧ (∀ g, Stb w0 S H w g → Stb w0 S H' w g) ∧ ys.length = vs.length ∧ ∀ (i : Nat) (x : AV) (v : Value), ys[i]? = some x → vs[i]? = some v → RV w (Stb w0 S H' w) x v ∧ (∀ vs, x ≠ .tup vs) ∧ x ≠ .undef
  | [], vs, H, K, h, hl, _, hs => ⟨[], H, hs, h, fun _ hg => hg, hl, by simp⟩
  | x :: xs, [], H, K, h, hl, _, hs => by simp at hl
  | x :: xs, v :: vs, H, K, h, hl, hrv, hs => by
    obtain ⟨x', H1, hs1, hsr1, hst1, hr1, ht1, hu1⟩ := sol_ok h (hrv 0 x v rfl rfl) hs
    obtain ⟨ys, H2, hK, hsr2, hst2, hl2, hr2⟩ := solE_ok xs vs hsr1 (by simpa using hl) (fun i y u hy hu => (hrv (i + 1) y u hy hu).mono (on_same hst1)) hs1
    refine ⟨x' :: ys, H2, hK, hsr2, fun g hg => hst2 g (hst1 g hg), by simpa using hl2, fun i y u hy hu => ?_⟩
    cases i with
    | zero =>
      obtain rfl : x' = y := by simpa using hy
      obtain rfl : v = u := by simpa using hu
      exact ⟨hr1.mono (on_same hst2), ht1, hu1⟩
    | succ i => exact hr2 i y u (by simpa using hy) (by simpa using hu)

/-! ### a slice's literal -/
theorem seqOk_spec : ∀ (k : Nat) (ps : List (Nat × Operand)) (ys : List Opd), seqOk nt k ps ys = true → ps.length = ys.length ∧ ∀ (i : Nat) (p : Nat × Operand), ps[i]? = some p → p.1 = k + i ∧ ∃ y, ys[i]? = some y ∧ mOpd nt p.2 y = true
  | _, [], [], _ => ⟨rfl, by simp⟩
  | k, p :: ps, y :: ys, h => by
    simp only [seqOk, Bool.and_eq_true, beq_iff_eq] at h
    obtain ⟨h1, h2⟩ := seqOk_spec (k + 1) ps ys h.2
    refine ⟨by simp [h1], fun i q hq => ?_⟩
    cases i with
    | zero =>
      obtain rfl : p = q := by simpa using hq
      exact ⟨by simp [h.1.1], y, rfl, h.1.2⟩
    | succ i =>
      obtain ⟨h3, h4⟩ := h2 i q (by simpa using hq)
      exact ⟨by omega, h4⟩
  | _, [], y :: ys, h => by simp [seqOk] at h
  | _, p :: ps, [], h => by simp [seqOk] at h

/-- the cells of a slice's literal: each part's, one behind the other -/
theorem foldl_set : ∀ (vs : List Value) (cs : Array Value) (off k : Nat), off + k + vs.length ≤ cs.size →
    ((vs.zipIdx k).foldl (fun cs (p : Value × Nat) => cs.setIfInBounds (off + p.2) p.1) cs).size = cs.size ∧
    ∀ i, ((vs.zipIdx k).foldl (fun cs (p : Value × Nat) => cs.setIfInBounds (off + p.2) p.1) cs)[i]? = if off + k ≤ i ∧ i < off + k + vs.length then vs[i - (off + k)]? else cs[i]?
  | [], cs, off, k, _ => ⟨rfl, fun i => by rw [if_neg (by simp only [List.length_nil]; omega)]; simp⟩
  | v :: vs, cs, off, k, hl => by
    simp only [List.length_cons] at hl
    obtain ⟨h1, h2⟩ := foldl_set vs (cs.setIfInBounds (off + k) v) off (k + 1) (by simp; omega)
    refine ⟨by rw [List.zipIdx_cons, List.foldl_cons, h1]; simp, fun i => ?_⟩
    rw [List.zipIdx_cons, List.foldl_cons, h2]
    simp only [List.length_cons]
    by_cases hi : i = off + k
    · subst hi
      rw [if_neg (by omega), if_pos (by omega)]
      have : off + k < cs.size := by omega
      simp [this]
    · by_cases hr : off + (k + 1) ≤ i ∧ i < off + (k + 1) + vs.length
      · rw [if_pos hr, if_pos (by omega)]
        have : i - (off + k) = (i - (off + (k + 1))) + 1 := by omega
        rw [this]
        rfl
      · rw [if_neg hr, if_neg (by omega), Array.getElem?_setIfInBounds_ne (by omega)]

theorem fill_seq (s len : Nat) : ∀ (vs : List Value) (k : Nat) (cs : Array Value), cs.size = len * s → k + vs.length = len → (∀ v ∈ vs, v.cells.size = s) →
    ∃ cs' : Array Value, Instr.fill (fun i => some (i * s, s)) cs ((vs.zipIdx k).map fun p => (p.2, p.1)) = some cs' ∧ cs'.size = len * s ∧
      (∀ i, i < k * s → cs'[i]? = cs[i]?) ∧ ∀ (i : Nat) (v : Value), vs[i]? = some v → ∀ j, j < s → cs'[(k + i) * s + j]? = v.cells[j]?
  | [], k, cs, hs, _, _ => ⟨cs, rfl, hs, fun _ _ => rfl, by simp⟩
  | v :: vs, k, cs, hs, hk, hv => by
    simp only [List.length_cons] at hk
    have hvs := hv v (List.mem_cons_self)
    have hle : k * s + s ≤ len * s := by
      have : (k + 1) * s ≤ len * s := Nat.mul_le_mul_right _ (by omega)
      rwa [Nat.add_mul, Nat.one_mul] at this
    have hfs := foldl_set v.cells.toList cs (k * s) 0 (by simp [hvs, hs]; omega)
    obtain ⟨hf1, hf2⟩ := hfs
    obtain ⟨cs', h1, h2, h3, h4⟩ := fill_seq s len vs (k + 1) _ (hf1.trans hs) (by omega) (fun u hu => hv u (List.mem_cons_of_mem _ hu))
    refine ⟨cs', ?_, h2, fun i hi => ?_, fun i u hu j hj => ?_⟩
    · simp only [List.zipIdx_cons, List.map_cons, Instr.fill]
      have hno : ¬ (v.cells.size ≠ s || decide (k * s + v.cells.size > cs.size)) = true := by
        simp [hvs, hs]
        omega
      simp only [hvs, hs] at hno ⊢
      rw [if_neg (by simpa using hno)]
      rw [← h1]
      congr 1
      rw [← Array.foldl_toList]
      simp
    · rw [h3 i (by rw [Nat.add_mul, Nat.one_mul]; omega), hf2, if_neg (by omega)]
    · cases i with
      | zero =>
        obtain rfl : v = u := by simpa using hu
        rw [Nat.add_zero, h3 _ (by rw [Nat.add_mul, Nat.one_mul]; omega), hf2, if_pos (by simp [hvs]; omega)]
        simp
      | succ i =>
        rw [show k + (i + 1) = k + 1 + i by omega]
        exact h4 i u (by simpa using hu) j hj
end
end Go.AVM

/- Literals of slices, stores, appends. -/
namespace Go.AVM
set_option linter.unusedSimpArgs false
open Go.RowKit
set_option linter.unusedVariables false
section
variable {P : Program} {w0 w : World} {S : Sg} {nt n : Nat} {E : Env} {H : Hp} {a : Act} {o : Oper}

theorem RV.szpos {T : Nat → Prop} {x : AV} {v : Value} {s : Nat} (h : RV w T x v) (hs : x.sz = s) (h0 : 0 < s) : RC w T x v.cells.toList ∧ v.cells.size = s := by
  obtain ⟨h1, h2⟩ := h.cells (by omega)
  exact ⟨h1, h2.trans hs⟩

theorem a_bls {d s : Nat} {ys : List Opd} {kp : Bool} {K : Env → Hp → Nat → Prop} {L : Laws} (h : SR w0 S nt E H n a w) (hm : mOp P nt o (.bls d s ys kp) = true) (hv : va L E H n (.bls d s ys kp) K) : Goes P w0 S nt o a w true K := by
  obtain ⟨h1, h2, h3⟩ := mOp_dst hm rfl
  obtain ⟨t, len, parts, ti, z, hti, hz, hts, hs0, hzs, hlen, hle, hseq, hop⟩ : ∃ t len parts ti, ∃ z : Value, elOf P t = some ti ∧ ti.zero = some z ∧ ti.size = s ∧ 0 < s ∧ z.cells.size = s ∧ len = ys.length ∧ len * s ≤ 16777216 ∧ seqOk nt 0 parts.toList ys = true ∧ o.op = .buildSlice t len parts := by
    generalize o.op = op at *
    cases op <;> first | (simp [mOp2, VOp.base, mOp1] at h3; done) | skip
    simp only [mOp2, VOp.base, mOp1, Bool.and_eq_true, beq_iff_eq, decide_eq_true_eq] at h3
    obtain ⟨⟨⟨h4, h5⟩, h6⟩, h7⟩ := h3
    split at h4 <;> first | (cases h4; done) | skip
    simp only [Bool.and_eq_true, beq_iff_eq, decide_eq_true_eq] at h4
    obtain ⟨⟨⟨h8, h9⟩, h10⟩, h11⟩ := h4
    split at h11 <;> first | (cases h11; done) | skip
    exact ⟨_, _, _, _, _, by assumption, by assumption, h9, h10, by simpa using h11, h5, h6, h7, rfl⟩
  obtain ⟨e, he, hi⟩ := elOf_spec hti
  obtain ⟨hpl, hpp⟩ := seqOk_spec _ _ _ hseq
  obtain ⟨vs, hvs⟩ : ∃ vs : List Value, vs = parts.toList.map fun p => a.eval p.2 := ⟨_, rfl⟩
  have hvl : vs.length = ys.length := by rw [hvs, List.length_map]; exact hpl
  have hrv0 : ∀ (i : Nat) (x : AV) (v : Value), (ys.map (ev E))[i]? = some x → vs[i]? = some v → RV w (Stb w0 S H w) x v := by
    intro i x v hx hv'
    rw [hvs] at hv'
    rw [List.getElem?_map] at hx hv'
    obtain ⟨y, hy, rfl⟩ := Option.map_eq_some_iff.1 hx
    obtain ⟨p, hp, rfl⟩ := Option.map_eq_some_iff.1 hv'
    obtain ⟨_, y', hy', hm'⟩ := hpp i p hp
    rw [hy] at hy'
    obtain rfl := Option.some.inj hy'
    exact h.rel.ev hm'
  obtain ⟨zs, H', rw', hzz, hK, hsr, hzl, hrv⟩ : ∃ (zs : List AV) (H' : Hp) (rw' : Bool), (∀ y ∈ zs, y.sz = s) ∧ (∀ b, n ≤ b → K (upd E d (.own d b s zs.length)) (updH H' d (some ⟨b, s, zs, false, rw', true⟩)) (b + 1)) ∧ SR w0 S nt E H' n a w ∧ zs.length = vs.length ∧
      ∀ (i : Nat) (x : AV) (v : Value), zs[i]? = some x → vs[i]? = some v → RV w (Stb w0 S H' w) x v := by
    simp only [va] at hv
    by_cases hkp : kp = true
    · rw [if_pos hkp] at hv
      exact ⟨_, H, false, hv.1, by simpa using hv.2, h, by simp [hvl], hrv0⟩
    · rw [if_neg hkp] at hv
      obtain ⟨zs, H', ⟨hzz, hK⟩, hsr, hst, hzl, hrv⟩ := solE_ok (ys.map (ev E)) vs h (by simp [hvl]) hrv0 hv
      exact ⟨zs, H', true, hzz, hK, hsr, hzl, fun i x v h1 h2 => (hrv i x v h1 h2).1⟩
  have hcell : ∀ (i : Nat) (v : Value), vs[i]? = some v → v.cells.size = s := by
    intro i v hv'
    have hlt : i < zs.length := by rw [hzl]; exact (List.getElem?_eq_some_iff.1 hv').1
    have := (hrv i zs[i] v (List.getElem?_eq_getElem hlt) hv').szpos (hzz _ (List.getElem_mem hlt)) hs0
    exact this.2
  obtain ⟨cs, hfill, hcs, _, hget⟩ := fill_seq s len vs 0 ((Array.range (len * s)).map (z.cells[· % z.cells.size]!)) (by simp) (by rw [Nat.zero_add, hvl, hlen]) (fun v hv' => by
    obtain ⟨i, hi'⟩ := List.mem_iff_getElem?.1 hv'
    exact hcell i v hi')
  have hparts : (parts.map fun (i, x) => (i, a.eval x)).toList = (vs.zipIdx 0).map fun p => (p.2, p.1) := by
    apply List.ext_getElem?
    intro i
    simp only [Array.toList_map, List.getElem?_map, List.getElem?_zipIdx, hvs, Nat.zero_add]
    cases hp : parts.toList[i]? with
    | none => simp
    | some p =>
      obtain ⟨hp1, _⟩ := hpp i p hp
      rw [Nat.zero_add] at hp1
      simp [hp1]
  have hrun : (execOp a.eval o).run P w = .ok (.value (.slice (some ⟨w.heap.size, 0, none⟩) len len)) (w.alloc (.cells cs e)) := by
    simp only [execOp, hop, Sem.run_bind]
    have hb : (Instr.buildSlice t len (parts.map fun (i, x) => (i, a.eval x))).run P w = .ok (.slice (some ⟨w.heap.size, 0, none⟩) len len) (w.alloc (.cells cs e)) := by
      have h24 : ¬ (len * ti.size > 2 ^ 24) := by rw [hts]; omega
      unfold Instr.buildSlice
      rw [hparts]
      by_cases h0 : len * ti.size = 0
      · have h0' : len = 0 := by
          rcases Nat.mul_eq_zero.1 h0 with h' | h'
          · exact h'
          · omega
        have hv0 : vs = [] := List.eq_nil_of_length_eq_zero (by rw [hvl, ← hlen, h0'])
        have hcs0 : cs = #[] := by
          rw [h0', Nat.zero_mul] at hcs
          exact Array.eq_empty_of_size_eq_zero hcs
        have hr0 : Array.range 0 = #[] := rfl
        rw [hv0]
        simp [run_underlying he, sizeOf, typeInfo, hi, h0', Instr.fill, newRow, hcs0, hr0]
      · simp only [Sem.run_bind, run_underlying he, Result.andThen_ok, sizeOf, typeInfo, run_program, hi, Sem.run_pure, if_neg h24, if_neg h0, zeroValue, hz]
        simp only [hts, hfill]
        simp [newRow]
    rw [hb]
    simp
  have hb : Below w.heap.size w (w.alloc (.cells cs e)) := (Below.refl _ _).alloc (Nat.le_refl _) _
  refine Goes.value h1 hrun (SR.alloc (k := ⟨w.heap.size, s, zs, false, rw', true⟩) hsr (Below.refl _ _) rfl rfl hs0 (by simp [hcs, hzl, hvl, hlen]) (fun _ => by simp [hcs, hzl, hvl, hlen]) (fun T hT i x hi' => ?_) (fun T => ?_) (Nat.le_refl _) (Nat.le_succ_of_le h.nle)) (hK _ h.nle) (fun _ => hb)
  · have hlt : i < vs.length := by rw [← hzl]; exact (List.getElem?_eq_some_iff.1 hi').1
    have hr := hrv i x vs[i] hi' (List.getElem?_eq_getElem hlt)
    obtain ⟨hc1, hc2⟩ := hr.szpos (hzz _ (List.mem_of_getElem? hi')) hs0
    refine ⟨vs[i].cells.toList, by simpa using hc2, hc1.mono (stb_on hb hT), fun j u hj => ?_⟩
    have hj' : vs[i].cells[j]? = some u := by simpa using hj
    have hjl := (Array.getElem?_eq_some_iff.1 hj').1
    have := hget i vs[i] (List.getElem?_eq_getElem hlt) j (by omega)
    rw [Nat.zero_add] at this
    show cs[i * s + j]? = some u
    rw [this, hj']
  · have hlz : zs.length = len := by rw [hzl, hvl, hlen]
    rw [hlz]
    refine RC.own d w.heap.size s len len (Nat.le_refl _) (by
      have := Nat.le_mul_of_pos_right len hs0
      simp only [maxLen]
      omega) ⟨_, e, heap_alloc_new w _, hcs⟩

/-! ### a store -/
theorem store_run {t : TypeId} {g off : Nat} {v : Value} {c : Array Value} {e : TypeId} (hz : szT P t = some v.cells.size) (hh : w.heap[g]? = some (.cells c e (0, 0))) (hfit : off + v.cells.size ≤ c.size) (h1 : ∀ u ∈ v.cells.toList, u.oneCell' = true) :
    (Instr.storeAt t (.pointer (some ⟨g, off, none⟩)) v).run P w = .ok () (w.setRow g (c.toList.take off ++ v.cells.toList ++ c.toList.drop (off + v.cells.size)).toArray) := by
  simp only [Instr.storeAt, Instr.sureAddr, storeVar, Sem.run_bind, Sem.run_pure, Result.andThen_ok, run_sizeOf hz]
  have := run_storeCells_at P g off e v.cells.toList 0 c w hh (by simpa using hfit) h1
  simp only [Nat.add_zero, Array.length_toList] at this
  simp only [ne_eq, not_true_eq_false, if_false]
  simpa using this

theorem seg_get (l vs : List Value) (off i : Nat) (hfit : off + vs.length ≤ l.length) : (l.take off ++ vs ++ l.drop (off + vs.length))[i]? = if off ≤ i ∧ i < off + vs.length then vs[i - off]? else l[i]? := by
  have hto : (l.take off).length = off := by simp; omega
  by_cases h1 : i < off
  · rw [if_neg (by omega), List.append_assoc, List.getElem?_append_left (by omega), List.getElem?_take, if_pos h1]
  · by_cases h2 : i < off + vs.length
    · rw [if_pos (by omega), List.append_assoc, List.getElem?_append_right (by omega), hto, List.getElem?_append_left (by omega)]
    · rw [if_neg (by omega), List.getElem?_append_right (by simp; omega), List.length_append, hto, List.getElem?_drop]
      congr 1
      omega

/-- A row of the call's own is written: the element at place i becomes y. -/
theorem SR.write {d : Nat} {k : Blk} {c c' : Array Value} {e : TypeId} {xs' : List AV} {ex' : Bool} (hex' : ex' = true → k.ex = true ∧ xs'.length = k.xs.length) (h : SR w0 S nt E H n a w) (hk : H d = some k) (hf : k.fz = false) (hh : w.heap[k.b]? = some (.cells c e (0, 0))) (hcs : c'.size = c.size) (hl : xs'.length * k.s ≤ c.size)
    (hall : ∀ (i : Nat) (x : AV), xs'[i]? = some x → ∃ cs : List Value, cs.length = k.s ∧ RC w (Stb w0 S H w) x cs ∧ ∀ (j : Nat) (v : Value), cs[j]? = some v → c'[i * k.s + j]? = some v) :
    SR w0 S nt E (updH H d (some { k with xs := xs', ex := ex' })) n a (w.setRow k.b c') := by
  have hlt := (h.blk d k hk).lt
  have hbe : Bel w0 S (w.setRow k.b c') := h.bel.row (h.blk d k hk).low rfl rfl rfl (by simp) hh (setRow_heap w k.b c c' e (0, 0) hh) hcs (fun g _ hg => setRow_other w k.b g c' hg)
  have hT : ∀ g, Stb w0 S H w g → Stb w0 S (updH H d (some { k with xs := xs', ex := ex' })) (w.setRow k.b c') g := fun g hg => by
    refine ⟨hg.1, by simpa using hg.2.1, fun d' k' hk' hf' => ?_⟩
    rcases updH_some hk' with ⟨_, he⟩ | ⟨_, he⟩
    · obtain rfl := Option.some.inj he
      exact hg.2.2 d k hk hf
    · exact hg.2.2 d' k' he hf'
  have hne : ∀ g, Stb w0 S H w g → g ≠ k.b := fun g hg e => hg.2.2 d k hk hf e.symm
  have hon : On w (w.setRow k.b c') (Stb w0 S H w) (Stb w0 S (updH H d (some { k with xs := xs', ex := ex' })) (w.setRow k.b c')) := by
    refine ⟨fun g hg => ⟨hT g hg, setRow_other w k.b g c' (hne g hg)⟩, fun g c1 e1 hg => ?_⟩
    by_cases hgb : g = k.b
    · subst hgb
      rw [hh] at hg
      injection hg with hg
      injection hg with hg1 hg2 _
      subst hg1 hg2
      exact ⟨c', setRow_heap w k.b c c' e (0, 0) hh, hcs⟩
    · exact ⟨c1, (setRow_other w k.b g c' hgb).trans hg, rfl⟩
  refine ⟨h.defs, h.size, hbe, by simpa using h.nle, h.nge, fun t ht => (h.tm t ht).mono hon, fun d' k' hk' => ?_, fun d1 d2 k1 k2 e1 e2 he => ?_⟩
  · rcases updH_some hk' with ⟨_, he⟩ | ⟨hd, he⟩
    · obtain rfl := Option.some.inj he
      obtain ⟨g1, g2, c0, e0, g3, g4, g5, _⟩ := h.blk d k hk
      rw [hh] at g3
      injection g3 with g3
      injection g3 with g3 _ _
      subst g3
      refine ⟨g1, g2, c', e, setRow_heap w k.b c c' e (0, 0) hh, by rw [hcs]; exact hl, (fun he => by rw [hcs, (hex' he).2]; exact g5 (hex' he).1), fun i x hi => ?_⟩
      obtain ⟨cs, h3, h4, h5⟩ := hall i x hi
      exact ⟨cs, h3, h4.mono hon, h5⟩
    · refine (h.blk d' k' he).mono hon (setRow_other w k.b k'.b c' fun e => hd (h.inj d' d k' k he hk e))
  · rcases updH_some e1 with ⟨h1, g1⟩ | ⟨h1, g1⟩ <;> rcases updH_some e2 with ⟨h2, g2⟩ | ⟨h2, g2⟩
    · rw [h1, h2]
    · obtain rfl := Option.some.inj g1
      exact absurd (h.inj d d2 k k2 hk g2 he).symm h2
    · obtain rfl := Option.some.inj g2
      exact absurd (h.inj d1 d k1 k g1 hk he) h1
    · exact h.inj d1 d2 k1 k2 g1 g2 he

theorem SR.congr_tm {E' : Env} (h : SR w0 S nt E H n a w) (he : ∀ t, E' t = E t) : SR w0 S nt E' H n a w := by
  have : E' = E := funext he
  rw [this]
  exact h
end
end Go.AVM

/- Stores and appends. -/
namespace Go.AVM
set_option linter.unusedSimpArgs false
open Go.RowKit
set_option linter.unusedVariables false
section
variable {P : Program} {w0 w : World} {S : Sg} {nt n : Nat} {E : Env} {H : Hp} {a : Act} {o : Oper}

theorem solid_or {row : Bool} {x : AV} {v : Value} {K : AV → Hp → Prop} (h : SR w0 S nt E H n a w) (hu : RV w (Stb w0 S H w) x v) (hs : (if row = true then sol H x else fun C => C x H) K) :
    ∃ x' H', K x' H' ∧ SR w0 S nt E H' n a w ∧ RV w (Stb w0 S H' w) x' v := by
  cases row with
  | true =>
    obtain ⟨x', H', h1, h2, _, h4, _⟩ := sol_ok h hu hs
    exact ⟨x', H', h1, h2, h4⟩
  | false => exact ⟨x, H, hs, h, hu⟩

theorem solid_or1 {row : Bool} {x : AV} {v : Value} {K : AV → Hp → Prop} (h : SR w0 S nt E H n a w) (hu : RV w (Stb w0 S H w) x v) (hna : x.isAgg = false) (hz : x.sz = 1) (hs : (if row = true then sol H x else fun C => C x H) K) :
    ∃ x' H', K x' H' ∧ SR w0 S nt E H' n a w ∧ RC w (Stb w0 S H' w) x' [v] ∧ x'.isAgg = false ∧ x'.sz = 1 := by
  cases row with
  | true =>
    have hs' : sol1 H x K := by cases x <;> first | exact hs | (simp [AV.isAgg] at hna)
    obtain ⟨x', H', h1, h2, _, h4, h5, h6⟩ := sol1_ok h hu hs'
    exact ⟨x', H', h1, h2, h4, h5, h6⟩
  | false => exact ⟨x, H, hs, h, hu.cell hna (by omega), hna, hz⟩

theorem list_set_get (xs : List AV) (i j : Nat) (v x : AV) (h : (xs.set i v)[j]? = some x) : (j = i ∧ x = v) ∨ (j ≠ i ∧ xs[j]? = some x) := by
  rw [List.getElem?_set] at h
  by_cases hij : i = j
  · rw [if_pos hij] at h
    split at h
    · exact .inl ⟨hij.symm, (Option.some.inj h).symm⟩
    · cases h
  · rw [if_neg hij] at h
    exact .inr ⟨fun e => hij e.symm, h⟩

theorem a_st {y z : Opd} {sz : Option Nat} {K : Env → Hp → Nat → Prop} {L : Laws} (h : SR w0 S nt E H n a w) (hm : mOp P nt o (.st y z sz) = true) (hv : va L E H n (.st y z sz) K) : Goes P w0 S nt o a w false K := by
  simp only [mOp, VOp.dst, Bool.and_eq_true, beq_iff_eq] at hm
  obtain ⟨hdst, h3⟩ := hm
  obtain ⟨t, x1, x2, hsz, hx, hy, hop⟩ : ∃ t x1 x2, szT P t = some (sz.getD 1) ∧ mOpd nt x1 y = true ∧ mOpd nt x2 z = true ∧ o.op = .store t x1 x2 := by
    generalize o.op = op at *
    cases op <;> first | (simp [mOp2, VOp.base, mOp1] at h3; done) | skip
    simp only [mOp2, VOp.base, mOp1, Bool.and_eq_true] at h3
    obtain ⟨⟨h4, h5⟩, h6⟩ := h3
    refine ⟨_, _, _, ?_, h5, h6, rfl⟩
    cases sz <;> simpa using h4
  have hvx := h.rel.ev hx
  have hvy := h.rel.ev hy
  simp only [va] at hv
  generalize hey : ev E y = vy at *
  cases vy <;> first | (exact hv.elim) | skip
  rename_i d b s i f
  obtain ⟨hfz, hzsz, k0, hk0, hv⟩ := hv
  cases f with
  | none =>
    obtain ⟨v', H', ⟨k, hk, rfl, rfl, hf, x, hxi, hv⟩, hsr, hrv⟩ := solid_or h hvy hv
    have hav := hvx.optr_inv
    obtain ⟨hlow, hpos, c, e, hh, hlen, _, hall⟩ := hsr.blk d k hk
    have hil : i < k.xs.length := (List.getElem?_eq_some_iff.1 hxi).1
    have hik : i * k.s + k.s ≤ c.size := by
      have : (i + 1) * k.s ≤ k.xs.length * k.s := Nat.mul_le_mul_right _ hil
      rw [Nat.add_mul, Nat.one_mul] at this
      omega
    obtain ⟨csx, hcl, hrcx, hccx⟩ := hall i x hxi
    obtain ⟨hvs, hK⟩ := hv
    obtain ⟨hrc, hcsz⟩ := hrv.szpos hvs hpos
    have hsz' : szT P t = some (a.eval x2).cells.size := by
      rw [hsz, hcsz]
      congr 1
      have h0 := hvy.cells
      cases sz with
      | none =>
        simp only [Option.getD_none]
        have := (h0 (by rw [hzsz.2]; omega)).2
        rw [hzsz.2] at this
        omega
      | some m =>
        obtain ⟨fs, hfs, hm'⟩ := hzsz
        simp only [Option.getD_some]
        by_cases hm0 : m = 0
        · exfalso
          rw [hfs] at hvy
          obtain ⟨cs, hcs, hl, _⟩ := hvy.agg_inv
          rw [hcs] at hcsz
          simp [Value.cells] at hcsz
          omega
        · have := (h0 (by rw [hfs]; show fs.length ≠ 0; omega)).2
          rw [hfs] at this
          simp only [AV.sz] at this
          omega
    have hrun := store_run (P := P) (off := i * k.s) hsz' hh (by rw [hcsz]; exact hik) hrc.one
    have hw := hsr.write (xs' := k.xs.set i v') (ex' := k.ex) (fun he => ⟨he, by simp⟩) hk hf hh (c' := (c.toList.take (i * k.s) ++ (a.eval x2).cells.toList ++ c.toList.drop (i * k.s + (a.eval x2).cells.size)).toArray) (by simp; omega) (by simpa using hlen) (fun j x' hj => by
      have hseg := fun q => seg_get c.toList (a.eval x2).cells.toList (i * k.s) q (by simp; omega)
      simp only [Array.length_toList] at hseg
      rcases list_set_get _ _ _ _ _ hj with ⟨rfl, rfl⟩ | ⟨hne, hj⟩
      · refine ⟨_, by simpa using hcsz, hrc, fun q u hq => ?_⟩
        have hql := (List.getElem?_eq_some_iff.1 hq).1
        simp only [Array.length_toList] at hql
        rw [List.getElem?_toArray, hseg, if_pos (by omega)]
        rw [show j * k.s + q - j * k.s = q by omega]
        exact hq
      · obtain ⟨cs, h4, h5, h6⟩ := hall j x' hj
        refine ⟨cs, h4, h5, fun q u hq => ?_⟩
        have hql := (List.getElem?_eq_some_iff.1 hq).1
        rw [List.getElem?_toArray, hseg, if_neg ?_]
        · simpa using h6 q u hq
        · rintro ⟨g1, g2⟩
          rw [hcsz] at g2
          rcases Nat.lt_or_gt_of_ne hne with hlt | hgt
          · have : (j + 1) * k.s ≤ i * k.s := Nat.mul_le_mul_right _ hlt
            rw [Nat.add_mul, Nat.one_mul] at this
            omega
          · have : (i + 1) * k.s ≤ j * k.s := Nat.mul_le_mul_right _ hgt
            rw [Nat.add_mul, Nat.one_mul] at this
            omega)
    refine Goes.skip hdst ?_ hw hK (by simp)
    simp only [execOp, hop, hav, Sem.run_bind, Option.getD_none, Nat.add_zero, hrun]
    rfl
  | some q =>
    obtain rfl := hfz rfl
    obtain ⟨v', H', ⟨k, hk, rfl, rfl, hf, x, hxi, hv⟩, hsr, hrc, hva, hvz⟩ := solid_or1 h hvy hzsz.1 hzsz.2 hv
    have hav := hvx.optr_inv
    obtain ⟨hlow, hpos, c, e, hh, hlen, _, hall⟩ := hsr.blk d k hk
    have hil : i < k.xs.length := (List.getElem?_eq_some_iff.1 hxi).1
    have hik : i * k.s + k.s ≤ c.size := by
      have : (i + 1) * k.s ≤ k.xs.length * k.s := Nat.mul_le_mul_right _ hil
      rw [Nat.add_mul, Nat.one_mul] at this
      omega
    obtain ⟨csx, hcl, hrcx, hccx⟩ := hall i x hxi
    obtain ⟨fs, rfl, hq, hfl, hK⟩ := hv
    obtain ⟨u, hu', hu1, hu2⟩ := hrc.len1 hvz
    obtain rfl : a.eval x2 = u := by simpa using hu'
    have huc : (a.eval x2).cells = #[a.eval x2] := by cases hq : a.eval x2 <;> simp_all [Value.cells]
    have hrun := store_run (P := P) (off := i * k.s + q) (v := a.eval x2) (by rw [hsz, huc]; rfl) hh (by rw [huc]; simp; omega) (by rw [huc]; simpa using hu1)
    rw [huc] at hrun
    cases hrcx with
    | agg _ _ hl hn hrcf =>
    have hw := hsr.write (xs' := k.xs.set i (.agg (fs.set q v'))) (ex' := k.ex) (fun he => ⟨he, by simp⟩) hk hf hh (c' := (c.toList.take (i * k.s + q) ++ [a.eval x2] ++ c.toList.drop (i * k.s + q + 1)).toArray) (by simp; omega) (by simpa using hlen) (fun j x' hj => by
      have hseg := fun q' => seg_get c.toList [a.eval x2] (i * k.s + q) q' (by simp; omega)
      simp only [List.length_cons, List.length_nil, Nat.zero_add] at hseg
      rcases list_set_get _ _ _ _ _ hj with ⟨rfl, rfl⟩ | ⟨hne, hj⟩
      · refine ⟨csx.set q (a.eval x2), by simpa using hcl, RC.agg _ _ (by simpa using hl) (fun f hf' => ?_) (fun i' f c' hf' hc' => ?_), fun q' u' hq' => ?_⟩
        · rcases List.mem_or_eq_of_mem_set hf' with h' | rfl
          · exact hn f h'
          · exact hva
        · rcases list_set_get _ _ _ _ _ hf' with ⟨rfl, rfl⟩ | ⟨hne', hf'⟩
          · have : i' < csx.length := by omega
            rw [List.getElem?_set_self this] at hc'
            obtain rfl := Option.some.inj hc'
            exact hrc
          · rw [List.getElem?_set_ne (fun e => hne' e.symm)] at hc'
            exact hrcf i' f c' hf' hc'
        · have hql := (List.getElem?_eq_some_iff.1 hq').1
          rw [List.length_set] at hql
          rw [List.getElem?_toArray, hseg]
          by_cases e' : q' = q
          · subst e'
            rw [List.getElem?_set_self (by omega)] at hq'
            rw [if_pos (by omega), show j * k.s + q' - (j * k.s + q') = 0 by omega]
            simpa using hq'
          · rw [if_neg (by omega)]
            rw [List.getElem?_set_ne (fun e => e' e.symm)] at hq'
            simpa using hccx q' u' hq'
      · obtain ⟨cs, h4, h5, h6⟩ := hall j x' hj
        refine ⟨cs, h4, h5, fun q' u' hq' => ?_⟩
        have hql := (List.getElem?_eq_some_iff.1 hq').1
        rw [List.getElem?_toArray, hseg, if_neg ?_]
        · simpa using h6 q' u' hq'
        · rintro ⟨g1, g2⟩
          rcases Nat.lt_or_gt_of_ne hne with hlt | hgt
          · have : (j + 1) * k.s ≤ i * k.s := Nat.mul_le_mul_right _ hlt
            rw [Nat.add_mul, Nat.one_mul] at this
            omega
          · have : (i + 1) * k.s ≤ j * k.s := Nat.mul_le_mul_right _ hgt
            rw [Nat.add_mul, Nat.one_mul] at this
            omega)
    refine Goes.skip hdst ?_ hw hK (by simp)
    simp only [execOp, hop, hav, Sem.run_bind, Option.getD_some, hrun]
    rfl
end
end Go.AVM

/- Appends. -/
namespace Go.AVM
set_option linter.unusedSimpArgs false
open Go.RowKit
set_option linter.unusedVariables false
section
variable {P : Program} {w0 w : World} {S : Sg} {nt n : Nat} {E : Env} {H : Hp} {a : Act} {o : Oper}

/-- what a slice's first cells are, in this world and behind a draw -/
def Firsts (P : Program) (w : World) (size m : Nat) (x : Value) (news : List Value) : Prop :=
  (Builtin.firstCells size m x).run P w = .ok news.toArray w ∧ (Builtin.firstCells size m x).run P w.drew = .ok news.toArray w.drew

theorem firsts_of {size m c : Nat} {ad : Option Addr} {news : List Value} (hl : news.length = m * size) (h : news ≠ [] → ∃ g off, ad = some ⟨g, off, none⟩ ∧ ∀ (j : Nat) (v : Value), news[j]? = some v → w.cell? ⟨g, off + j, none⟩ = some v) : Firsts P w size m (.slice ad m c) news := by
  by_cases hn : news = []
  · subst hn
    have h0 : m * size = 0 := by simpa using hl.symm
    cases ad with
    | none => exact ⟨by simp [Builtin.firstCells], by simp [Builtin.firstCells]⟩
    | some a => exact ⟨by simp [Builtin.firstCells, loadCells, loadCellsFrom, h0], by simp [Builtin.firstCells, loadCells, loadCellsFrom, h0]⟩
  · obtain ⟨g, off, rfl, hc⟩ := h hn
    have hc' : ∀ (j : Nat) (v : Value), news[j]? = some v → w.cell? ((⟨g, off, none⟩ : Addr).add j) = some v := fun j v hj => by rw [add_none]; exact hc j v hj
    refine ⟨run_firstCells_some (P := P) w size m _ m c news hl hc', run_firstCells_some (P := P) w.drew size m _ m c news hl (fun j v hj => ?_)⟩
    have := hc' j v hj
    exact this

theorem append_room {t ty e : TypeId} {ti : TypeInfo} (ht : P.underlying t = some (.slice e)) (hi : P.info? e = some ti) {g sLen sCap m c : Nat} {ad : Option Addr} {cur : Array Value} {e' : TypeId} {news : List Value}
    (hg : w.heap[g]? = some (.cells cur e' (0, 0))) (hl : news.length = m * ti.size) (hf : Firsts P w ti.size m (.slice ad m c) news) (h1 : ∀ u ∈ news, u.oneCell' = true) (hroom : sLen + m ≤ sCap) (hfit : sLen * ti.size + news.length ≤ cur.size) :
    (Builtin.append_ #[t, t] ty #[.slice (some ⟨g, 0, none⟩) sLen sCap, .slice ad m c]).run P w =
      .ok (.slice (some ⟨g, 0, none⟩) (sLen + m) sCap) (w.setRow g (cur.toList.take (sLen * ti.size) ++ news ++ cur.toList.drop (sLen * ti.size + news.length)).toArray) := by
  have hst := run_storeCells_at P g (sLen * ti.size) e' news 0 cur w hg (by simpa using hfit) h1
  simp only [Nat.add_zero] at hst
  simp [Builtin.append_, run_underlying ht, sizeOf, typeInfo, hi, Builtin.lenOf, hroom, hf.1, add_none, hst]

theorem append_grow {t ty e : TypeId} {ti : TypeInfo} {z : Value} (ht : P.underlying t = some (.slice e)) (hi : P.info? e = some ti) (hz : ti.zero = some z) {sLen sCap m c : Nat} {bd ad : Option Addr} {olds news : List Value}
    (ho : Firsts P w ti.size sLen (.slice bd sLen sCap) olds) (hf : Firsts P w ti.size m (.slice ad m c) news) (hg : sCap < sLen + m) (h63 : ((sLen + m : Nat) : Int) ≤ 9223372036854775807) (hfit : (sLen + m) * ti.bytes ≤ 140737488355328) :
    (Builtin.append_ #[t, t] ty #[.slice bd sLen sCap, .slice ad m c]).run P w =
      .ok (.slice (some ⟨w.heap.size, 0, none⟩) (sLen + m) (grownCap w (sLen + m) sCap e))
        (w.drew.alloc (.cells (olds.toArray ++ news.toArray ++ Builtin.zeroCells z.cells (grownCap w (sLen + m) sCap e - (sLen + m))) e)) := by
  have hn : ¬ (sLen + m ≤ sCap) := by omega
  have h63' : ¬ (9223372036854775807 < ((sLen : Int) + (m : Int))) := by omega
  have h48 := growslice_fits hg hfit
  have h48' : ¬ (281474976710656 < Builtin.nextslicecap (sLen + m) sCap * ti.bytes) := by omega
  simp [Builtin.append_, run_underlying ht, sizeOf, typeInfo, zeroValue, hi, hz, Builtin.lenOf, hn, h63', h48', Question.forced, hf.2, ho.2, newRow, grownCap]
  congr 2
  apply Array.ext'
  simp [List.append_assoc]

/-- The elements of a row that is read, cell behind cell. -/
theorem flat_row {T : Nat → Prop} {s : Nat} : ∀ (ys : List AV) (cells : Nat → List Value), (∀ (i : Nat) (x : AV), ys[i]? = some x → (cells i).length = s ∧ RC w T x (cells i)) →
    ∃ news : List Value, news.length = ys.length * s ∧ (∀ (i j : Nat) (x : AV) (v : Value), ys[i]? = some x → (cells i)[j]? = some v → news[i * s + j]? = some v) ∧ (∀ u ∈ news, u.oneCell' = true) ∧
      ∀ q u, news[q]? = some u → ∃ (i j : Nat) (x : AV), ys[i]? = some x ∧ (cells i)[j]? = some u ∧ q = i * s + j
  | [], cells, _ => ⟨[], by simp, by simp, by simp, by simp⟩
  | y :: ys, cells, h => by
    obtain ⟨news, hl, h1, h2, h3⟩ := flat_row ys (fun i => cells (i + 1)) (fun i x hi => h (i + 1) x (by simpa using hi))
    obtain ⟨hy1, hy2⟩ := h 0 y rfl
    refine ⟨cells 0 ++ news, by simp [hy1, hl, Nat.add_mul]; omega, fun i j x v hi hj => ?_, fun u hu => ?_, fun q u hq => ?_⟩
    · cases i with
      | zero =>
        have hlt := (List.getElem?_eq_some_iff.1 hj).1
        rw [Nat.zero_mul, Nat.zero_add, List.getElem?_append_left hlt]
        exact hj
      | succ i =>
        rw [List.getElem?_append_right (by rw [hy1, Nat.add_mul]; omega), hy1, show (i + 1) * s + j - s = i * s + j by rw [Nat.add_mul, Nat.one_mul]; omega]
        exact h1 i j x v (by simpa using hi) hj
    · rcases List.mem_append.1 hu with hu | hu
      · exact hy2.one u hu
      · exact h2 u hu
    · rcases Nat.lt_or_ge q (cells 0).length with hlt | hge
      · rw [List.getElem?_append_left hlt] at hq
        exact ⟨0, q, y, rfl, hq, by simp⟩
      · rw [List.getElem?_append_right hge] at hq
        obtain ⟨i, j, x, hi, hj, he⟩ := h3 _ u hq
        exact ⟨i + 1, j, x, by simpa using hi, hj, by rw [Nat.add_mul, Nat.one_mul]; omega⟩

theorem src_ok {y : Opd} {x2 : Operand} {s : Nat} {C : List AV → Prop} (h : SR w0 S nt E H n a w) (hm : mOpd nt x2 y = true) (hs0 : 0 < s) (hc : srcOf E H y C) (hsz : ∀ ys, C ys → ∀ z ∈ ys, z.sz = s) :
    ∃ ys ad m c, ∃ cells : Nat → List Value, ∃ news : List Value, C ys ∧ a.eval x2 = .slice ad m c ∧ m = ys.length ∧ (∀ (i : Nat) (x : AV), ys[i]? = some x → (cells i).length = s ∧ RC w (Stb w0 S H w) x (cells i)) ∧
      news.length = ys.length * s ∧ (∀ (i j : Nat) (x : AV) (v : Value), ys[i]? = some x → (cells i)[j]? = some v → news[i * s + j]? = some v) ∧ (∀ u ∈ news, u.oneCell' = true) ∧ Firsts P w s m (.slice ad m c) news := by
  have hv := h.rel.ev hm
  unfold srcOf at hc
  -- a row that is read at g, off
  have fin : ∀ (ys : List AV) (ad : Option Addr) (c : Nat) (cells : Nat → List Value), C ys → a.eval x2 = .slice ad ys.length c → (∀ (i : Nat) (x : AV), ys[i]? = some x → (cells i).length = s ∧ RC w (Stb w0 S H w) x (cells i)) →
      (ys ≠ [] → ∃ g off, ad = some ⟨g, off, none⟩ ∧ ∀ (i : Nat) (x : AV), ys[i]? = some x → ∀ (j : Nat) (v : Value), (cells i)[j]? = some v → w.cell? ⟨g, off + i * s + j, none⟩ = some v) →
      ∃ ys ad m c, ∃ cells : Nat → List Value, ∃ news : List Value, C ys ∧ a.eval x2 = .slice ad m c ∧ m = ys.length ∧ (∀ (i : Nat) (x : AV), ys[i]? = some x → (cells i).length = s ∧ RC w (Stb w0 S H w) x (cells i)) ∧
      news.length = ys.length * s ∧ (∀ (i j : Nat) (x : AV) (v : Value), ys[i]? = some x → (cells i)[j]? = some v → news[i * s + j]? = some v) ∧ (∀ u ∈ news, u.oneCell' = true) ∧ Firsts P w s m (.slice ad m c) news := by
    intro ys ad c cells hC hav hcl hat
    obtain ⟨news, hl, h1, h2, h3⟩ := flat_row ys cells hcl
    refine ⟨ys, ad, ys.length, c, cells, news, hC, hav, rfl, hcl, hl, h1, h2, firsts_of hl fun hne => ?_⟩
    have hne' : ys ≠ [] := by
      rintro rfl
      exact hne (List.eq_nil_of_length_eq_zero (by simpa using hl))
    obtain ⟨g, off, rfl, hc⟩ := hat hne'
    refine ⟨g, off, rfl, fun q u hq => ?_⟩
    obtain ⟨i, j, x, hi, hj, rfl⟩ := h3 q u hq
    rw [← Nat.add_assoc]
    exact hc i x hi j u hj
  generalize hey : ev E y = vy at *
  cases vy <;> first | (exact hc.elim) | skip
  · obtain ⟨ad, hav⟩ := hv.emp_inv
    exact fin [] ad 0 (fun _ => []) hc hav (by simp) (by simp)
  · rename_i tg m xs
    obtain ⟨hml, hC⟩ := hc
    obtain ⟨ad, cap, s', cells, hav, hlc, hll, hxc, hmx, hne, ht, hrc⟩ := hv.lsl_inv
    have hmin : (xs.take m).length = m := by simp; omega
    have hget : ∀ (i : Nat) (x : AV), (xs.take m)[i]? = some x → xs[i]? = some x := fun i x hi => by
      rw [List.getElem?_take] at hi
      split at hi
      · exact hi
      · cases hi
    have hcl : ∀ (i : Nat) (x : AV), (xs.take m)[i]? = some x → (cells i).length = s ∧ RC w (Stb w0 S H w) x (cells i) := fun i x hi => by
      have hz := hsz _ hC x (List.mem_of_getElem? hi)
      have hr := hrc i x (hget i x hi)
      exact ⟨by rw [hr.len (by omega)]; exact hz, hr⟩
    refine fin (xs.take m) ad cap cells hC (by rw [hmin]; exact hav) hcl (fun hne' => ?_)
    have hxne : xs ≠ [] := by rintro rfl; simp at hne'
    obtain ⟨g, off, rfl, hT, hcc⟩ := hne hxne
    have hss : s' = s := by
      obtain ⟨x0, xs0, hx0⟩ := List.exists_cons_of_ne_nil hne'
      have h0 : (xs.take m)[0]? = some x0 := by rw [hx0]; rfl
      have := (hcl 0 x0 h0).1
      have := (hcc 0 x0 (hget 0 x0 h0)).1
      omega
    subst hss
    exact ⟨g, off, rfl, fun i x hi j v hj => (hcc i x (hget i x hi)).2 j v hj⟩
  · rename_i d' b s' m
    obtain ⟨k, hk, rfl, rfl, hml, hC⟩ := hc
    obtain ⟨cap, hav, _⟩ := hv.own_inv
    obtain ⟨hlow, hpos, c, e, hh, hlen, _, hall⟩ := h.blk d' k hk
    have hmin : (k.xs.take m).length = m := by simp; omega
    have hget : ∀ (i : Nat) (x : AV), (k.xs.take m)[i]? = some x → k.xs[i]? = some x := fun i x hi => by
      rw [List.getElem?_take] at hi
      split at hi
      · exact hi
      · cases hi
    let cells : Nat → List Value := fun i => (c.toList.drop (i * k.s)).take k.s
    have hcell : ∀ (i : Nat) (x : AV), k.xs[i]? = some x → (cells i).length = k.s ∧ RC w (Stb w0 S H w) x (cells i) := by
      intro i x hi
      obtain ⟨cs, h3, h4, h5⟩ := hall i x hi
      have : cells i = cs := by
        apply List.ext_getElem?
        intro j
        simp only [cells, List.getElem?_take, List.getElem?_drop]
        by_cases hj : j < k.s
        · rw [if_pos hj]
          have hj' : j < cs.length := by omega
          have := h5 j cs[j] (List.getElem?_eq_getElem hj')
          rw [List.getElem?_eq_getElem hj', ← this]
          simp
        · rw [if_neg hj, List.getElem?_eq_none (by omega)]
      rw [this]
      exact ⟨h3, h4⟩
    have hcl : ∀ (i : Nat) (x : AV), (k.xs.take m)[i]? = some x → (cells i).length = s ∧ RC w (Stb w0 S H w) x (cells i) := fun i x hi => by
      obtain ⟨g1, g2⟩ := hcell i x (hget i x hi)
      have hz := hsz _ hC x (List.mem_of_getElem? hi)
      exact ⟨by rw [g2.len (by omega)]; exact hz, g2⟩
    refine fin (k.xs.take m) _ cap cells hC (by rw [hmin]; exact hav) hcl (fun hne' => ⟨k.b, 0, rfl, fun i x hi j v hj => ?_⟩)
    have hss : k.s = s := by
      have := (hcl i x hi).1
      have := (hcell i x (hget i x hi)).1
      omega
    simp only [cells, List.getElem?_take, List.getElem?_drop] at hj
    split at hj <;> first | (cases hj; done) | skip
    simp only [World.cell?, hh, Nat.zero_add, ← hss]
    simpa using hj
end
end Go.AVM

/- Appends, the law. -/
namespace Go.AVM
set_option linter.unusedSimpArgs false
open Go.RowKit
set_option linter.unusedVariables false
section
variable {P : Program} {w0 w : World} {S : Sg} {nt n : Nat} {E : Env} {H : Hp} {a : Act} {o : Oper}

theorem inv_app {op : Op} {d s bytes : Nat} {fr kp : Bool} {y z : Opd} (h : mOp1 P nt op (.app d s y z bytes fr kp) = true) :
    ∃ x1 x2 t ti, ∃ zv : Value, elOf P t = some ti ∧ ti.size = s ∧ 0 < s ∧ ti.bytes = bytes ∧ ti.zero = some zv ∧ zv.cells.size = s ∧ mOpd nt x1 y = true ∧ mOpd nt x2 z = true ∧ op = .call { callee := .builtin .append, args := #[x1, x2], argTypes := #[t, t] } := by
  cases op <;> first | (simp [mOp2, VOp.base, mOp1] at h; done) | skip
  rename_i c
  obtain ⟨cal, ⟨args⟩, ⟨ts⟩⟩ := c
  cases cal <;> first | (simp [mOp2, VOp.base, mOp1] at h; done) | skip
  rename_i bi
  cases bi <;> first | (simp [mOp2, VOp.base, mOp1] at h; done) | skip
  rcases args with _ | ⟨x, _ | ⟨x2, _ | _⟩⟩ <;> first | (simp [mOp2, VOp.base, mOp1] at h; done) | skip
  rcases ts with _ | ⟨t, _ | ⟨t2, _ | _⟩⟩ <;> first | (simp [mOp2, VOp.base, mOp1] at h; done) | skip
  simp only [mOp2, VOp.base, mOp1, Bool.and_eq_true, beq_iff_eq] at h
  obtain ⟨⟨⟨rfl, h1⟩, h2⟩, h3⟩ := h
  split at h1 <;> first | (cases h1; done) | skip
  simp only [Bool.and_eq_true, beq_iff_eq, decide_eq_true_eq] at h1
  obtain ⟨⟨⟨h4, h5⟩, h6⟩, h7⟩ := h1
  split at h7 <;> first | (cases h7; done) | skip
  exact ⟨x, x2, t, _, _, by assumption, h4, h5, h6, by assumption, by simpa using h7, h2, h3, rfl⟩

theorem below_drew (w : World) : Below w.heap.size w w.drew := ⟨rfl, rfl, rfl, Nat.le_refl _, fun _ _ => rfl⟩

/-- what stands behind an append: the old elements, then the new -/
theorem joined_get {s : Nat} {olds news : List Value} {rest : Array Value} {m : Nat} (ho : olds.length = m * s) (i j : Nat) (hj : j < s) :
    ((olds.toArray ++ news.toArray) ++ rest)[i * s + j]? = if i < m then olds[i * s + j]? else if (i - m) * s + j < news.length then news[(i - m) * s + j]? else rest[i * s + j - (olds.length + news.length)]? := by
  by_cases hi : i < m
  · rw [if_pos hi]
    have hlt : i * s + j < olds.length := by
      rw [ho]
      have : (i + 1) * s ≤ m * s := Nat.mul_le_mul_right _ hi
      rw [Nat.add_mul, Nat.one_mul] at this
      omega
    rw [Array.getElem?_append_left (by simp; omega), Array.getElem?_append_left (by simpa using hlt)]
    simp
  · rw [if_neg hi]
    have hge : olds.length ≤ i * s + j := by
      rw [ho]
      have := Nat.mul_le_mul_right s (Nat.le_of_not_lt hi)
      omega
    have he : i * s + j - olds.length = (i - m) * s + j := by
      rw [ho, Nat.sub_mul]
      have := Nat.mul_le_mul_right s (Nat.le_of_not_lt hi)
      omega
    by_cases hn : (i - m) * s + j < news.length
    · rw [if_pos hn, Array.getElem?_append_left (by simp; omega), Array.getElem?_append_right (by simpa using hge)]
      simp [he]
    · rw [if_neg hn, Array.getElem?_append_right (by simp; omega)]
      simp

theorem a_app {d s bytes : Nat} {fr kp : Bool} {y z : Opd} {K : Env → Hp → Nat → Prop} {L : Laws} (h : SR w0 S nt E H n a w) (hm : mOp P nt o (.app d s y z bytes fr kp) = true) (hv : va L E H n (.app d s y z bytes fr kp) K) : Goes P w0 S nt o a w fr K := by
  obtain ⟨h1, h2, h3⟩ := mOp_dst hm rfl
  obtain ⟨x1, x2, t, ti, zv, hti, hts, hs0, hby, hzv, hzs, hx, hy, hop⟩ := inv_app h3
  obtain ⟨e, he, hi⟩ := elOf_spec hti
  subst hts hby
  have hvx := h.rel.ev hx
  unfold va at hv
  obtain ⟨ys, ad, m, c, cells, news, ⟨hysz, hK⟩, hav, rfl, hcl, hnl, hnget, hn1, hfirst⟩ := src_ok (P := P) h hy hs0 hv (fun ys hC => hC.1)
  have hexec : (execOp a.eval o).run P w = ((Builtin.append_ #[t, t] o.type #[a.eval x1, .slice ad ys.length c]).run P w).andThen fun v w' => .ok (.value v) w' := by
    simp [execOp, hop, resolve, invoke, builtin, hav]
  generalize hey : ev E y = vy at *
  cases vy <;> first | (exact hK.elim) | skip
  · -- onto nothing
    obtain ⟨hK0, hK1⟩ := hK
    obtain ⟨bd, hb⟩ := hvx.emp_inv
    by_cases hys : ys = []
    · subst hys
      have hn0 : news = [] := List.eq_nil_of_length_eq_zero (by simpa using hnl)
      subst hn0
      refine Goes.value h1 (v := .slice bd 0 0) ?_ (h.put (x := .emp) (RC.emp _)) (hK0 rfl) (fun _ => Below.refl _ _)
      rw [hexec, hb]
      have := hfirst.1
      simp only [List.length_nil] at this
      cases bd <;> simp [Builtin.append_, run_underlying he, sizeOf, typeInfo, hi, Builtin.lenOf, this, storeCells]
    · obtain ⟨hb1, hb2, hK⟩ := hK1 hys
      have hpos : 0 < ys.length := List.length_pos_iff.2 hys
      have ho : Firsts P w ti.size 0 (.slice bd 0 0) [] := firsts_of (by simp) (by simp)
      have hgr := append_grow (P := P) (ty := o.type) he hi hzv ho hfirst (by omega) (by omega) (by rw [Nat.zero_add]; exact hb1)
      simp only [Nat.zero_add] at hgr
      have hrun := hexec
      rw [hb, hgr] at hrun
      simp only [Result.andThen_ok] at hrun
      have hge := grownCap_ge w ys.length 0 e
      have hcm := grownCap_le_maxLen w ys.length 0 e (by simp only [maxLen]; omega)
      have hcs : (([] : List Value).toArray ++ news.toArray ++ Builtin.zeroCells zv.cells (grownCap w ys.length 0 e - ys.length)).size = grownCap w ys.length 0 e * ti.size := by
        simp only [Array.size_append, List.size_toArray, size_zeroCells, hzs, hnl, List.length_nil, Nat.zero_add, ← Nat.add_mul]
        congr 1
        omega
      have hb' : Below w.heap.size w (w.drew.alloc (.cells (([] : List Value).toArray ++ news.toArray ++ Builtin.zeroCells zv.cells (grownCap w ys.length 0 e - ys.length)) e)) := (below_drew w).alloc (Nat.le_refl _) _
      refine Goes.value h1 hrun (SR.alloc (k := ⟨w.heap.size, ti.size, ys, false, !kp, false⟩) h (below_drew w) rfl rfl hs0 (by rw [hcs]; exact Nat.mul_le_mul_right _ hge) (by simp) (fun T hT i x hi' => ?_) (fun T => ?_) (Nat.le_refl _) (Nat.le_succ_of_le h.nle)) (hK _ _ h.nle (Nat.lt_succ_self _)) (fun _ => hb')
      · obtain ⟨g1, g2⟩ := hcl i x hi'
        refine ⟨cells i, g1, g2.mono (stb_on hb' hT), fun j u hj => ?_⟩
        have hjl : j < ti.size := by rw [← g1]; exact (List.getElem?_eq_some_iff.1 hj).1
        have := hnget i j x u hi' hj
        have hq := joined_get (olds := []) (news := news) (rest := Builtin.zeroCells zv.cells (grownCap w ys.length 0 e - ys.length)) (m := 0) (s := ti.size) (by simp) i j hjl
        rw [if_neg (by omega), Nat.sub_zero, if_pos (List.getElem?_eq_some_iff.1 this).1, this] at hq
        exact hq
      · refine RC.own d w.heap.size ti.size ys.length _ hge hcm ⟨_, e, heap_alloc_new w.drew _, hcs⟩
  · -- onto a row of one's own
    rename_i d' b s' len
    obtain ⟨k, hk, rfl, hks, rfl, hf, hfr, rfl, hb1, hb2, hK⟩ := hK
    obtain ⟨cap, hb, hlc, hcm, cur, e', hh, hcs⟩ := hvx.own_inv
    obtain ⟨hlow, hpos, c2, e2, hh2, hlen, hex, hall⟩ := h.blk d' k hk
    rw [hh2] at hh
    injection hh with hh
    injection hh with hh he' _
    subst hh he'
    rw [hks] at hlen hall
    by_cases hroom : k.xs.length + ys.length ≤ cap
    · have hfit : k.xs.length * ti.size + news.length ≤ c2.size := by
        rw [hnl, hcs, ← Nat.add_mul]
        exact Nat.mul_le_mul_right _ hroom
      have hrm := append_room (P := P) (ty := o.type) he hi hh2 hnl hfirst hn1 hroom hfit
      have hrun := hexec
      rw [hb, hrm] at hrun
      simp only [Result.andThen_ok] at hrun
      have hseg := fun q => seg_get c2.toList news (k.xs.length * ti.size) q (by simpa using hfit)
      have hw := h.write (xs' := k.xs ++ ys) (ex' := false) (by simp) hk hf hh2 (c' := (c2.toList.take (k.xs.length * ti.size) ++ news ++ c2.toList.drop (k.xs.length * ti.size + news.length)).toArray) (by simp; omega) (by rw [hks, List.length_append, Nat.add_mul, ← hnl]; exact hfit) (fun i x hi' => by
        rw [hks]
        rcases Nat.lt_or_ge i k.xs.length with hlt | hge
        · rw [List.getElem?_append_left hlt] at hi'
          obtain ⟨cs, g1, g2, g3⟩ := hall i x hi'
          refine ⟨cs, g1, g2, fun j u hj => ?_⟩
          have hjl := (List.getElem?_eq_some_iff.1 hj).1
          have : (i + 1) * ti.size ≤ k.xs.length * ti.size := Nat.mul_le_mul_right _ hlt
          rw [Nat.add_mul, Nat.one_mul] at this
          rw [List.getElem?_toArray, hseg, if_neg (by omega)]
          simpa using g3 j u hj
        · rw [List.getElem?_append_right hge] at hi'
          obtain ⟨g1, g2⟩ := hcl _ x hi'
          refine ⟨_, g1, g2, fun j u hj => ?_⟩
          have hjl : j < ti.size := by rw [← g1]; exact (List.getElem?_eq_some_iff.1 hj).1
          have hq := hnget _ j x u hi' hj
          have hqlt := (List.getElem?_eq_some_iff.1 hq).1
          have hmm := Nat.mul_le_mul_right ti.size hge
          have : i * ti.size + j - k.xs.length * ti.size = (i - k.xs.length) * ti.size + j := by
            rw [Nat.sub_mul]
            omega
          rw [List.getElem?_toArray, hseg, if_pos (by omega), this]
          exact hq)
      have hKK := hK k.b n (Nat.le_refl _) (.inl rfl)
      rw [← hks] at hKK
      refine Goes.value h1 hrun (SR.put (x := .own d' k.b ti.size (k.xs.length + ys.length)) hw (u := .slice (some ⟨k.b, 0, none⟩) (k.xs.length + ys.length) cap) ?_) ?_ (fun he => ?_)
      · refine RC.own d' k.b ti.size _ cap hroom hcm ⟨_, e2, setRow_heap w k.b c2 _ e2 (0, 0) hh2, ?_⟩
        simp
        omega
      · have := hK k.b n (Nat.le_refl _) (.inl rfl)
        have hkk : ({ k with xs := k.xs ++ ys, ex := false } : Blk) = ⟨k.b, ti.size, k.xs ++ ys, false, k.row, false⟩ := by
          cases k
          simp_all
        rw [hkk]
        exact this
      · -- nothing is brought: the row is as it was
        have hc1 := hex (hfr he)
        rw [hks, hcs] at hc1
        have hcap : cap = k.xs.length := Nat.eq_of_mul_eq_mul_right hs0 hc1
        have hy0 : ys = [] := List.eq_nil_of_length_eq_zero (by omega)
        subst hy0
        have hn0 : news = [] := List.eq_nil_of_length_eq_zero (by simpa using hnl)
        subst hn0
        simp only [List.append_nil, List.length_nil, Nat.add_zero, List.take_append_drop, Array.toArray_toList]
        rw [setRow_self w k.b c2 e2 (0, 0) hh2]
        exact Below.refl _ _
    · have ho : Firsts P w ti.size k.xs.length (.slice (some ⟨k.b, 0, none⟩) k.xs.length cap) (c2.toList.take (k.xs.length * ti.size)) := by
        refine firsts_of (by simp; omega) fun _ => ⟨k.b, 0, rfl, fun j v hj => ?_⟩
        rw [List.getElem?_take] at hj
        split at hj <;> first | (cases hj; done) | skip
        simp only [World.cell?, hh2, Nat.zero_add]
        simpa using hj
      have hgr := append_grow (P := P) (ty := o.type) he hi hzv ho hfirst (by omega) (by omega) hb1
      have hrun := hexec
      rw [hb, hgr] at hrun
      simp only [Result.andThen_ok] at hrun
      have hge := grownCap_ge w (k.xs.length + ys.length) cap e
      have hcm' := grownCap_le_maxLen w (k.xs.length + ys.length) cap e (by simp only [maxLen]; omega)
      have hol : (c2.toList.take (k.xs.length * ti.size)).length = k.xs.length * ti.size := by simp; omega
      have hcs' : ((c2.toList.take (k.xs.length * ti.size)).toArray ++ news.toArray ++ Builtin.zeroCells zv.cells (grownCap w (k.xs.length + ys.length) cap e - (k.xs.length + ys.length))).size = grownCap w (k.xs.length + ys.length) cap e * ti.size := by
        simp only [Array.size_append, List.size_toArray, size_zeroCells, hzs, hnl, hol, ← Nat.add_mul]
        congr 1
        omega
      have hb' : Below w.heap.size w (w.drew.alloc (.cells ((c2.toList.take (k.xs.length * ti.size)).toArray ++ news.toArray ++ Builtin.zeroCells zv.cells (grownCap w (k.xs.length + ys.length) cap e - (k.xs.length + ys.length))) e)) := (below_drew w).alloc (Nat.le_refl _) _
      refine Goes.value h1 hrun (SR.alloc (dk := d') (k := ⟨w.heap.size, ti.size, k.xs ++ ys, false, k.row, false⟩) h (below_drew w) rfl rfl hs0 (by rw [hcs', List.length_append]; exact Nat.mul_le_mul_right _ hge) (by simp) (fun T hT i x hi' => ?_) (fun T => ?_) (Nat.le_refl _) (Nat.le_succ_of_le h.nle)) (hK w.heap.size (w.heap.size + 1) (by have := h.nle; omega) (.inr ⟨h.nle, Nat.lt_succ_self _⟩)) (fun _ => hb')
      · simp only at hi'
        rcases Nat.lt_or_ge i k.xs.length with hlt | hgei
        · rw [List.getElem?_append_left hlt] at hi'
          obtain ⟨cs, g1, g2, g3⟩ := hall i x hi'
          refine ⟨cs, g1, g2.mono (stb_on hb' hT), fun j u hj => ?_⟩
          have hjl : j < ti.size := by rw [← g1]; exact (List.getElem?_eq_some_iff.1 hj).1
          have hq := joined_get (news := news) (rest := Builtin.zeroCells zv.cells (grownCap w (k.xs.length + ys.length) cap e - (k.xs.length + ys.length))) hol i j hjl
          have : (i + 1) * ti.size ≤ k.xs.length * ti.size := Nat.mul_le_mul_right _ hlt
          rw [Nat.add_mul, Nat.one_mul] at this
          rw [if_pos hlt, List.getElem?_take, if_pos (by omega)] at hq
          rw [hq]
          simpa using g3 j u hj
        · rw [List.getElem?_append_right hgei] at hi'
          obtain ⟨g1, g2⟩ := hcl _ x hi'
          refine ⟨_, g1, g2.mono (stb_on hb' hT), fun j u hj => ?_⟩
          have hjl : j < ti.size := by rw [← g1]; exact (List.getElem?_eq_some_iff.1 hj).1
          have hqq := hnget _ j x u hi' hj
          have hq := joined_get (news := news) (rest := Builtin.zeroCells zv.cells (grownCap w (k.xs.length + ys.length) cap e - (k.xs.length + ys.length))) hol i j hjl
          rw [if_neg (by omega), if_pos (List.getElem?_eq_some_iff.1 hqq).1, hqq] at hq
          exact hq
      · exact RC.own d' w.heap.size ti.size (k.xs.length + ys.length) _ hge hcm' ⟨_, e, heap_alloc_new w.drew _, hcs'⟩
end
end Go.AVM
