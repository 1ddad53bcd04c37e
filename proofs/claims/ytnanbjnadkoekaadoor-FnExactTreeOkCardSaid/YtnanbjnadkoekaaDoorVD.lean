/- The operations that make memory or write it. -/
import Derived.Test.YtnanbjnadkoekaaDoorVQ4
namespace Go.AVM
set_option linter.unusedSimpArgs false
open Go.RowKit
set_option linter.unusedVariables false
section
variable {P : Program} {w0 w : World} {S : Sg} {nt n : Nat} {E : Env} {H : Hp} {a : Act} {o : Oper}

theorem SR.rel (h : SR w0 S nt E H n a w) : Rel w (Stb w0 S H w) nt E a := ⟨h.size, h.tm⟩

theorem put_size (a : Act) (d : Option Tmp) (v : Value) : (a.put d v).tmps.size = a.tmps.size := by
  cases d <;> simp [Act.put]
theorem put_defers (a : Act) (d : Option Tmp) (v : Value) : (a.put d v).defers = a.defers := by
  cases d <;> simp [Act.put]
theorem put_get (a : Act) (d : Nat) (v : Value) (t : Nat) (ht : t < a.tmps.size) : (a.put (some d) v).tmps.getD t undef = if t = d then v else a.tmps.getD t undef := by
  simp only [Act.put, Array.getD_eq_getD_getElem?]
  by_cases h : t = d
  · subst h
    simp [ht]
  · rw [if_neg h, Array.getElem?_setIfInBounds_ne (fun e => h e.symm)]

/-- The world has gone on, some of the own blocks with it, and one temporary has been written. -/
theorem SR.next {w' : World} {H' : Hp} {n' d : Nat} {x : AV} {u : Value} (h : SR w0 S nt E H n a w) (hb : Bel w0 S w') (hon : On w w' (Stb w0 S H w) (Stb w0 S H' w')) (hn : n' ≤ w'.heap.size) (hnn : w0.heap.size ≤ n')
    (hu : RV w' (Stb w0 S H' w') x u) (hblk : ∀ d k, H' d = some k → BOK w' (Stb w0 S H' w') (Mine w0 S) k) (hinj : ∀ d d' k k', H' d = some k → H' d' = some k' → k.b = k'.b → d = d') :
    SR w0 S nt (upd E d x) H' n' (a.put (some d) u) w' where
  defs := by rw [put_defers]; exact h.defs
  size := by rw [put_size]; exact h.size
  bel := hb
  nle := hn
  nge := hnn
  tm := fun t ht => by
    rw [put_get a d u t (by rw [h.size]; exact ht)]
    unfold upd
    by_cases e : t = d
    · rw [if_pos e, if_pos e]; exact hu
    · rw [if_neg e, if_neg e]; exact (h.tm t ht).mono hon
  blk := hblk
  inj := hinj

theorem SR.put {d : Nat} {x : AV} {u : Value} (h : SR w0 S nt E H n a w) (hu : RV w (Stb w0 S H w) x u) : SR w0 S nt (upd E d x) H n (a.put (some d) u) w :=
  h.next h.bel ⟨fun _ hg => ⟨hg, rfl⟩, fun _ c _ hc => ⟨c, hc, rfl⟩⟩ h.nle h.nge hu h.blk h.inj

theorem SR.quiet_world {w' : World} (h : SR w0 S nt E H n a w) (hb : Below w.heap.size w w') : SR w0 S nt E H n a w' := by
  have hon : On w w' (Stb w0 S H w) (Stb w0 S H w') := ⟨fun g hg => ⟨⟨hg.1, Nat.lt_of_lt_of_le hg.2.1 hb.size, hg.2.2⟩, hb.block g hg.2.1⟩, fun g c e hg => ⟨c, (hb.block g (Array.getElem?_eq_some_iff.1 hg).1).trans hg, rfl⟩⟩
  refine ⟨h.defs, h.size, h.bel.on hb, Nat.le_trans h.nle hb.size, h.nge, fun t ht => (h.tm t ht).mono hon, fun d k hk => ?_, h.inj⟩
  obtain ⟨h1, h2, c, e, hh, hl, hex, hall⟩ := h.blk d k hk
  refine ⟨h1, h2, c, e, (hb.block _ (Array.getElem?_eq_some_iff.1 hh).1).trans hh, hl, hex, fun i x hi => ?_⟩
  obtain ⟨cs, h3, h4, h5⟩ := hall i x hi
  exact ⟨cs, h3, h4.mono hon, h5⟩

theorem updH_some {H : Hp} {d d' : Nat} {v : Option Blk} {k : Blk} (h : updH H d v d' = some k) : (d' = d ∧ v = some k) ∨ (d' ≠ d ∧ H d' = some k) := by
  unfold updH at h
  by_cases e : d' = d
  · rw [if_pos e] at h; exact .inl ⟨e, h⟩
  · rw [if_neg e] at h; exact .inr ⟨e, h⟩

theorem BOK.mono {w' : World} {T T' : Nat → Prop} {base : Nat → Prop} {k : Blk} (h : BOK w T base k) (hon : On w w' T T') (hh : w'.heap[k.b]? = w.heap[k.b]?) : BOK w' T' base k := by
  obtain ⟨h1, h2, c, e, hc, hl, hex, hall⟩ := h
  refine ⟨h1, h2, c, e, hh.trans hc, hl, hex, fun i x hi => ?_⟩
  obtain ⟨cs, h3, h4, h5⟩ := hall i x hi
  exact ⟨cs, h3, h4.mono hon, h5⟩
theorem BOK.lt {T : Nat → Prop} {base : Nat → Prop} {k : Blk} (h : BOK w T base k) : k.b < w.heap.size := by
  obtain ⟨_, _, c, e, hc, _⟩ := h
  exact (Array.getElem?_eq_some_iff.1 hc).1

/-- A new block, under a key. (dr: the order's or a capacity's draw.) -/
theorem SR.alloc {d dk : Nat} {x : AV} {u : Value} {k : Blk} {c : Array Value} {e : TypeId} {w1 : World} (h : SR w0 S nt E H n a w) (hw1 : Below w.heap.size w w1) (hsz : w1.heap.size = w.heap.size) (hkb : k.b = w.heap.size) (hs : 0 < k.s)
    (hl : k.xs.length * k.s ≤ c.size) (hex : k.ex = true → c.size = k.xs.length * k.s) (hall : ∀ T, (∀ g, Stb w0 S H w g → T g) → ∀ (i : Nat) (x : AV), k.xs[i]? = some x → ∃ cs : List Value, cs.length = k.s ∧ RC (w1.alloc (.cells c e)) T x cs ∧ ∀ (j : Nat) (v : Value), cs[j]? = some v → c[i * k.s + j]? = some v)
    (hu : ∀ T, RV (w1.alloc (.cells c e)) T x u) {n' : Nat} (hn : n' ≤ w.heap.size + 1) (hn0 : n ≤ n') :
    SR w0 S nt (upd E d x) (updH H dk (some k)) n' (a.put (some d) u) (w1.alloc (.cells c e)) := by
  have hb : Below w.heap.size w (w1.alloc (.cells c e)) := hw1.alloc (by omega) _
  have hT : ∀ g, Stb w0 S H w g → Stb w0 S (updH H dk (some k)) (w1.alloc (.cells c e)) g := fun g hg => by
    refine ⟨hg.1, Nat.lt_of_lt_of_le hg.2.1 hb.size, fun d' k' hk' hf => ?_⟩
    rcases updH_some hk' with ⟨_, he⟩ | ⟨_, he⟩
    · obtain rfl := Option.some.inj he
      have := hg.2.1
      omega
    · exact hg.2.2 d' k' he hf
  have hon : On w (w1.alloc (.cells c e)) (Stb w0 S H w) (Stb w0 S (updH H dk (some k)) (w1.alloc (.cells c e))) :=
    ⟨fun g hg => ⟨hT g hg, hb.block g hg.2.1⟩, fun g c' e' hg => ⟨c', (hb.block g (Array.getElem?_eq_some_iff.1 hg).1).trans hg, rfl⟩⟩
  refine h.next (h.bel.on hb) hon (by simp [hsz]; omega) (Nat.le_trans h.nge hn0) (hu _) (fun d' k' hk' => ?_) (fun d1 d2 k1 k2 e1 e2 he => ?_)
  · rcases updH_some hk' with ⟨_, he⟩ | ⟨_, he⟩
    · obtain rfl := Option.some.inj he
      refine ⟨?_, hs, c, e, ?_, hl, hex, hall _ hT⟩
      · refine .inr ?_; have := h.bel.size; omega
      · rw [hkb, ← hsz]; exact heap_alloc_new w1 _
    · exact (h.blk d' k' he).mono hon (hb.block _ (h.blk d' k' he).lt)
  · rcases updH_some e1 with ⟨h1, g1⟩ | ⟨h1, g1⟩ <;> rcases updH_some e2 with ⟨h2, g2⟩ | ⟨h2, g2⟩
    · rw [h1, h2]
    · obtain rfl := Option.some.inj g1
      have := (h.blk d2 k2 g2).lt
      omega
    · obtain rfl := Option.some.inj g2
      have := (h.blk d1 k1 g1).lt
      omega
    · exact h.inj d1 d2 k1 k2 g1 g2 he

theorem on_alloc (w : World) (o : Obj) (T : Nat → Prop) (hT : ∀ g, T g → g < w.heap.size) : On w (w.alloc o) T T :=
  On.of_below hT ((Below.refl _ _).alloc (Nat.le_refl _) o)

theorem stb_on {T : Nat → Prop} {w' : World} (hb : Below w.heap.size w w') (hT : ∀ g, Stb w0 S H w g → T g) : On w w' (Stb w0 S H w) T :=
  ⟨fun g hg => ⟨hT g hg, hb.block g hg.2.1⟩, fun g c' e' hg => ⟨c', (hb.block g (Array.getElem?_eq_some_iff.1 hg).1).trans hg, rfl⟩⟩

/-- The outcome of an operation: it gives a value, or nothing, and what follows holds. -/
def Goes (P : Program) (w0 : World) (S : Sg) (nt : Nat) (o : Oper) (a : Act) (w : World) (grows : Bool) (K : Env → Hp → Nat → Prop) : Prop :=
  ∀ (next : Act → World → Prop) (Q : Exit → Act → World → Prop),
    (∀ E' H' n' a' w', SR w0 S nt E' H' n' a' w' → K E' H' n' → (grows = true → Below w.heap.size w w') → next a' w') → o.wp P a w next Q

theorem Goes.value {grows : Bool} {K : Env → Hp → Nat → Prop} {d : Nat} {v : Value} {w' : World} {E' : Env} {H' : Hp} {n' : Nat} (hd : o.dst = some d) (hrun : (execOp a.eval o).run P w = .ok (.value v) w') (hs : SR w0 S nt E' H' n' (a.put (some d) v) w') (hK : K E' H' n') (hg : grows = true → Below w.heap.size w w') :
    Goes P w0 S nt o a w grows K := by
  intro next Q hnext
  unfold Oper.wp
  rw [hrun, Oper.upon_value, hd]
  exact hnext _ _ _ _ _ hs hK hg
theorem Goes.skip {grows : Bool} {K : Env → Hp → Nat → Prop} {w' : World} {E' : Env} {H' : Hp} {n' : Nat} (hd : o.dst = none) (hrun : (execOp a.eval o).run P w = .ok .skip w') (hs : SR w0 S nt E' H' n' a w') (hK : K E' H' n') (hg : grows = true → Below w.heap.size w w') :
    Goes P w0 S nt o a w grows K := by
  intro next Q hnext
  unfold Oper.wp
  rw [hrun, Oper.upon_skip, hd]
  exact hnext _ _ _ _ _ hs hK hg

theorem zeroOk_spec {i : TypeInfo} {s : Nat} {z : AV} (h : zeroOk i s z = true) : i.size = s ∧ 0 < s ∧ ∃ v, i.zero = some v ∧ constV v z = true ∧ v.cells.size = s := by
  simp only [zeroOk, Bool.and_eq_true, beq_iff_eq, decide_eq_true_eq] at h
  obtain ⟨⟨h1, h2⟩, h3⟩ := h
  split at h3
  · simp only [Bool.and_eq_true, beq_iff_eq] at h3
    exact ⟨h1, h2, _, by assumption, h3.1, h3.2⟩
  · cases h3

theorem a_alc {d s : Nat} {z : AV} {K : Env → Hp → Nat → Prop} {L : Laws} (h : SR w0 S nt E H n a w) (hm : mOp P nt o (.alc d s z) = true) (hv : va L E H n (.alc d s z) K) : Goes P w0 S nt o a w true K := by
  obtain ⟨h1, h2, h3⟩ := mOp_dst hm rfl
  obtain ⟨e, ti, hi, hz, hop⟩ : ∃ e ti, P.info? e = some ti ∧ zeroOk ti s z = true ∧ o.op = .alloc e := by
    generalize o.op = op at *
    cases op <;> first | (simp [mOp2, VOp.base, mOp1] at h3; done) | skip
    simp only [mOp2, VOp.base, mOp1] at h3
    split at h3
    · exact ⟨_, _, by assumption, h3, rfl⟩
    · cases h3
  obtain ⟨hts, hs0, v, hzv, hcv, hvs⟩ := zeroOk_spec hz
  obtain ⟨hzs, hK⟩ := hv
  have hrun : (execOp a.eval o).run P w = .ok (.value (.pointer (some ⟨w.heap.size, 0, none⟩))) (w.alloc (.cells v.cells e)) := by
    simp [execOp, hop, Instr.alloc, zeroValue, typeInfo, hi, hzv, newVar, newRow]
  refine Goes.value h1 hrun (SR.alloc (k := ⟨w.heap.size, s, [z], false, false, false⟩) h (Below.refl _ _) rfl rfl hs0 (by simp [hvs]) (by simp) (fun T hT i x hi => ?_) (fun T => ?_) (Nat.le_refl _) (Nat.le_succ_of_le h.nle)) (hK _ h.nle) (fun _ => (Below.refl _ _).alloc (Nat.le_refl _) _)
  · have h0 : i = 0 ∧ x = z := by
      cases i with
      | zero => simpa using hi.symm
      | succ i => simp at hi
    obtain ⟨rfl, rfl⟩ := h0
    exact ⟨v.cells.toList, by simpa using hvs, (constV_cells hcv).1, fun j u hj => by simpa using hj⟩
  · have := RC.optr (w := w.alloc (.cells v.cells e)) (T := T) d w.heap.size s 0 none
    simpa [RV, RV0] using this

theorem a_box {d s : Nat} {y : Opd} {K : Env → Hp → Nat → Prop} {L : Laws} (h : SR w0 S nt E H n a w) (hm : mOp P nt o (.box d s y) = true) (hv : va L E H n (.box d s y) K) : Goes P w0 S nt o a w true K := by
  obtain ⟨h1, h2, h3⟩ := mOp_dst hm rfl
  obtain ⟨e, x1, hx, hop⟩ : ∃ e x1, mOpd nt x1 y = true ∧ o.op = .box e x1 := by
    generalize o.op = op at *
    cases op <;> first | (simp [mOp2, VOp.base, mOp1] at h3; done) | skip
    exact ⟨_, _, h3, rfl⟩
  obtain ⟨hzs, hs0, hK⟩ := hv
  have hvx := h.rel.ev hx
  obtain ⟨hrc, hcs⟩ := hvx.cells (by omega)
  have hrun : (execOp a.eval o).run P w = .ok (.value (.pointer (some ⟨w.heap.size, 0, none⟩))) (w.alloc (.cells (a.eval x1).cells e)) := by
    simp [execOp, hop, Instr.box, newVar, newRow]
  have hb : Below w.heap.size w (w.alloc (.cells (a.eval x1).cells e)) := (Below.refl _ _).alloc (Nat.le_refl _) _
  refine Goes.value h1 hrun (SR.alloc (k := ⟨w.heap.size, s, [ev E y], false, false, false⟩) h (Below.refl _ _) rfl rfl hs0 (by simp [hcs, hzs]) (by simp) (fun T hT i x hi => ?_) (fun T => ?_) (Nat.le_refl _) (Nat.le_succ_of_le h.nle)) (hK _ h.nle) (fun _ => hb)
  · have h0 : i = 0 ∧ x = ev E y := by
      cases i with
      | zero => simpa using hi.symm
      | succ i => simp at hi
    obtain ⟨rfl, rfl⟩ := h0
    exact ⟨(a.eval x1).cells.toList, by simp [hcs, hzs], hrc.mono (stb_on hb hT), fun j u hj => by simpa using hj⟩
  · have := RC.optr (w := w.alloc (.cells (a.eval x1).cells e)) (T := T) d w.heap.size s 0 none
    simpa [RV, RV0] using this

/-- cells of zeros -/
theorem made_get (z : Array Value) (m i j : Nat) (hz : 0 < z.size) (hi : i < m) (hj : j < z.size) : (madeCells z (m * z.size))[i * z.size + j]? = z[j]? := by
  have hlt : i * z.size + j < m * z.size := by
    calc i * z.size + j < i * z.size + z.size := by omega
      _ = (i + 1) * z.size := by rw [Nat.add_mul, Nat.one_mul]
      _ ≤ m * z.size := Nat.mul_le_mul_right _ hi
  have hmod : (i * z.size + j) % z.size = j := by rw [Nat.mul_comm, Nat.mul_add_mod, Nat.mod_eq_of_lt hj]
  simp [madeCells, hlt, hmod, getElem!_pos z j hj]

theorem a_mks {d s bytes : Nat} {m : Opd} {z : AV} {K : Env → Hp → Nat → Prop} {L : Laws} (h : SR w0 S nt E H n a w) (hm : mOp P nt o (.mks d s m z bytes) = true) (hv : va L E H n (.mks d s m z bytes) K) : Goes P w0 S nt o a w true K := by
  obtain ⟨h1, h2, h3⟩ := mOp_dst hm rfl
  obtain ⟨t, x1, x2, ti, hti, hby, hz, hx, hy, hop⟩ : ∃ t x1 x2 ti, elOf P t = some ti ∧ ti.bytes = bytes ∧ zeroOk ti s z = true ∧ mOpd nt x1 m = true ∧ mOpd nt x2 m = true ∧ o.op = .makeSlice t x1 x2 := by
    generalize o.op = op at *
    cases op <;> first | (simp [mOp2, VOp.base, mOp1] at h3; done) | skip
    simp only [mOp2, VOp.base, mOp1, Bool.and_eq_true] at h3
    obtain ⟨⟨h4, h5⟩, h6⟩ := h3
    split at h4 <;> first | (cases h4; done) | skip
    simp only [Bool.and_eq_true, beq_iff_eq] at h4
    exact ⟨_, _, _, _, by assumption, h4.1, h4.2, h5, h6, rfl⟩
  obtain ⟨e, he, hi⟩ := elOf_spec hti
  obtain ⟨hts, hs0, v, hzv, hcv, hvs⟩ := zeroOk_spec hz
  obtain ⟨k, l, hel, hl0, hlb, hl2, kk, hK⟩ := hv
  have e1 := (h.rel.ev hx)
  have e2 := (h.rel.ev hy)
  rw [hel] at e1 e2
  have hmk := run_make (P := P) w t e ti v he hi hzv k k l l hl0 (Int.le_refl _) (by rw [hby, Int.mul_comm]; omega) (by omega)
  have hrun : (execOp a.eval o).run P w = .ok (.value (.slice (some ⟨w.heap.size, 0, none⟩) l.toNat l.toNat)) (w.alloc (.cells (madeCells v.cells (l.toNat * ti.size)) e)) := by
    simp only [execOp, hop, e1.int_inv, e2.int_inv, Sem.run_bind, hmk]
    rfl
  have hb : Below w.heap.size w (w.alloc (.cells (madeCells v.cells (l.toNat * ti.size)) e)) := (Below.refl _ _).alloc (Nat.le_refl _) _
  refine Goes.value h1 hrun (SR.alloc (k := ⟨w.heap.size, s, List.replicate l.toNat z, false, true, true⟩) h (Below.refl _ _) rfl rfl hs0 (by simp [size_madeCells, hts]) (fun _ => by simp [size_madeCells, hts]) (fun T hT i x hi' => ?_) (fun T => ?_) (Nat.le_refl _) (Nat.le_succ_of_le h.nle)) (hK _ h.nle) (fun _ => hb)
  · obtain ⟨hlt, rfl⟩ : i < l.toNat ∧ x = z := by
      rw [List.getElem?_replicate] at hi'
      split at hi'
      · exact ⟨by assumption, (Option.some.inj hi').symm⟩
      · cases hi'
    refine ⟨v.cells.toList, by simpa using hvs, (constV_cells hcv).1, fun j u hj => ?_⟩
    have hj' : v.cells[j]? = some u := by simpa using hj
    have hjl := (Array.getElem?_eq_some_iff.1 hj').1
    have := made_get v.cells l.toNat i j (by omega) hlt hjl
    show (madeCells v.cells (l.toNat * ti.size))[i * s + j]? = some u
    rw [hts, ← hvs, this, hj']
  · refine RC.own (kk w.heap.size) w.heap.size s l.toNat l.toNat (Nat.le_refl _) (by simp only [maxLen]; omega) ⟨_, e, heap_alloc_new w _, ?_⟩
    simp [size_madeCells, hts]
end
end Go.AVM
