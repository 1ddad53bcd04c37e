/- Literals of slices, stores, appends. -/
import Derived.Test.YtnanbjnadkoekaaDoorVD2
namespace Go.AVM
set_option linter.unusedSimpArgs false
open Go.RowKit
set_option linter.unusedVariables false
section
variable {P : Program} {w0 w : World} {S : Sg} {nt n : Nat} {E : Env} {H : Hp} {a : Act} {o : Oper}

theorem RV.szpos {T : Nat → Prop} {x : AV} {v : Value} {s : Nat} (h : RV w T x v) (hs : x.sz = s) (h0 : 0 < s) : RC w T x v.cells.toList ∧ v.cells.size = s := by
  obtain ⟨h1, h2⟩ := h.cells (by omega)
  exact ⟨h1, h2.trans hs⟩

theorem a_bls {d s : Nat} {ys : List Opd} {kp : Bool} {K : Env → Hp → Nat → Prop} {L : Laws} (h : SR w0 S nt E H n a w) (hm : mOp P nt o (.bls d s ys kp) = true) (hv : va L E H n (.bls d s ys kp) K) : Goes P w0 S nt o a w true K := by
  obtain ⟨h1, h2, h3⟩ := mOp_dst hm rfl
  obtain ⟨t, len, parts, ti, z, hti, hz, hts, hs0, hzs, hlen, hle, hseq, hop⟩ : ∃ t len parts ti, ∃ z : Value, elOf P t = some ti ∧ ti.zero = some z ∧ ti.size = s ∧ 0 < s ∧ z.cells.size = s ∧ len = ys.length ∧ len * s ≤ 16777216 ∧ seqOk nt 0 parts.toList ys = true ∧ o.op = .buildSlice t len parts := by
    generalize o.op = op at *
    cases op <;> first | (simp [mOp2, VOp.base, mOp1] at h3; done) | skip
    simp only [mOp2, VOp.base, mOp1, Bool.and_eq_true, beq_iff_eq, decide_eq_true_eq] at h3
    obtain ⟨⟨⟨h4, h5⟩, h6⟩, h7⟩ := h3
    split at h4 <;> first | (cases h4; done) | skip
    simp only [Bool.and_eq_true, beq_iff_eq, decide_eq_true_eq] at h4
    obtain ⟨⟨⟨h8, h9⟩, h10⟩, h11⟩ := h4
    split at h11 <;> first | (cases h11; done) | skip
    exact ⟨_, _, _, _, _, by assumption, by assumption, h9, h10, by simpa using h11, h5, h6, h7, rfl⟩
  obtain ⟨e, he, hi⟩ := elOf_spec hti
  obtain ⟨hpl, hpp⟩ := seqOk_spec _ _ _ hseq
  obtain ⟨vs, hvs⟩ : ∃ vs : List Value, vs = parts.toList.map fun p => a.eval p.2 := ⟨_, rfl⟩
  have hvl : vs.length = ys.length := by rw [hvs, List.length_map]; exact hpl
  have hrv0 : ∀ (i : Nat) (x : AV) (v : Value), (ys.map (ev E))[i]? = some x → vs[i]? = some v → RV w (Stb w0 S H w) x v := by
    intro i x v hx hv'
    rw [hvs] at hv'
    rw [List.getElem?_map] at hx hv'
    obtain ⟨y, hy, rfl⟩ := Option.map_eq_some_iff.1 hx
    obtain ⟨p, hp, rfl⟩ := Option.map_eq_some_iff.1 hv'
    obtain ⟨_, y', hy', hm'⟩ := hpp i p hp
    rw [hy] at hy'
    obtain rfl := Option.some.inj hy'
    exact h.rel.ev hm'
  obtain ⟨zs, H', rw', hzz, hK, hsr, hzl, hrv⟩ : ∃ (zs : List AV) (H' : Hp) (rw' : Bool), (∀ y ∈ zs, y.sz = s) ∧ (∀ b, n ≤ b → K (upd E d (.own d b s zs.length)) (updH H' d (some ⟨b, s, zs, false, rw', true⟩)) (b + 1)) ∧ SR w0 S nt E H' n a w ∧ zs.length = vs.length ∧
      ∀ (i : Nat) (x : AV) (v : Value), zs[i]? = some x → vs[i]? = some v → RV w (Stb w0 S H' w) x v := by
    simp only [va] at hv
    by_cases hkp : kp = true
    · rw [if_pos hkp] at hv
      exact ⟨_, H, false, hv.1, by simpa using hv.2, h, by simp [hvl], hrv0⟩
    · rw [if_neg hkp] at hv
      obtain ⟨zs, H', ⟨hzz, hK⟩, hsr, hst, hzl, hrv⟩ := solE_ok (ys.map (ev E)) vs h (by simp [hvl]) hrv0 hv
      exact ⟨zs, H', true, hzz, hK, hsr, hzl, fun i x v h1 h2 => (hrv i x v h1 h2).1⟩
  have hcell : ∀ (i : Nat) (v : Value), vs[i]? = some v → v.cells.size = s := by
    intro i v hv'
    have hlt : i < zs.length := by rw [hzl]; exact (List.getElem?_eq_some_iff.1 hv').1
    have := (hrv i zs[i] v (List.getElem?_eq_getElem hlt) hv').szpos (hzz _ (List.getElem_mem hlt)) hs0
    exact this.2
  obtain ⟨cs, hfill, hcs, _, hget⟩ := fill_seq s len vs 0 ((Array.range (len * s)).map (z.cells[· % z.cells.size]!)) (by simp) (by rw [Nat.zero_add, hvl, hlen]) (fun v hv' => by
    obtain ⟨i, hi'⟩ := List.mem_iff_getElem?.1 hv'
    exact hcell i v hi')
  have hparts : (parts.map fun (i, x) => (i, a.eval x)).toList = (vs.zipIdx 0).map fun p => (p.2, p.1) := by
    apply List.ext_getElem?
    intro i
    simp only [Array.toList_map, List.getElem?_map, List.getElem?_zipIdx, hvs, Nat.zero_add]
    cases hp : parts.toList[i]? with
    | none => simp
    | some p =>
      obtain ⟨hp1, _⟩ := hpp i p hp
      rw [Nat.zero_add] at hp1
      simp [hp1]
  have hrun : (execOp a.eval o).run P w = .ok (.value (.slice (some ⟨w.heap.size, 0, none⟩) len len)) (w.alloc (.cells cs e)) := by
    simp only [execOp, hop, Sem.run_bind]
    have hb : (Instr.buildSlice t len (parts.map fun (i, x) => (i, a.eval x))).run P w = .ok (.slice (some ⟨w.heap.size, 0, none⟩) len len) (w.alloc (.cells cs e)) := by
      have h24 : ¬ (len * ti.size > 2 ^ 24) := by rw [hts]; omega
      unfold Instr.buildSlice
      rw [hparts]
      by_cases h0 : len * ti.size = 0
      · have h0' : len = 0 := by
          rcases Nat.mul_eq_zero.1 h0 with h' | h'
          · exact h'
          · omega
        have hv0 : vs = [] := List.eq_nil_of_length_eq_zero (by rw [hvl, ← hlen, h0'])
        have hcs0 : cs = #[] := by
          rw [h0', Nat.zero_mul] at hcs
          exact Array.eq_empty_of_size_eq_zero hcs
        have hr0 : Array.range 0 = #[] := rfl
        rw [hv0]
        simp [run_underlying he, sizeOf, typeInfo, hi, h0', Instr.fill, newRow, hcs0, hr0]
      · simp only [Sem.run_bind, run_underlying he, Result.andThen_ok, sizeOf, typeInfo, run_program, hi, Sem.run_pure, if_neg h24, if_neg h0, zeroValue, hz]
        simp only [hts, hfill]
        simp [newRow]
    rw [hb]
    simp
  have hb : Below w.heap.size w (w.alloc (.cells cs e)) := (Below.refl _ _).alloc (Nat.le_refl _) _
  refine Goes.value h1 hrun (SR.alloc (k := ⟨w.heap.size, s, zs, false, rw', true⟩) hsr (Below.refl _ _) rfl rfl hs0 (by simp [hcs, hzl, hvl, hlen]) (fun _ => by simp [hcs, hzl, hvl, hlen]) (fun T hT i x hi' => ?_) (fun T => ?_) (Nat.le_refl _) (Nat.le_succ_of_le h.nle)) (hK _ h.nle) (fun _ => hb)
  · have hlt : i < vs.length := by rw [← hzl]; exact (List.getElem?_eq_some_iff.1 hi').1
    have hr := hrv i x vs[i] hi' (List.getElem?_eq_getElem hlt)
    obtain ⟨hc1, hc2⟩ := hr.szpos (hzz _ (List.mem_of_getElem? hi')) hs0
    refine ⟨vs[i].cells.toList, by simpa using hc2, hc1.mono (stb_on hb hT), fun j u hj => ?_⟩
    have hj' : vs[i].cells[j]? = some u := by simpa using hj
    have hjl := (Array.getElem?_eq_some_iff.1 hj').1
    have := hget i vs[i] (List.getElem?_eq_getElem hlt) j (by omega)
    rw [Nat.zero_add] at this
    show cs[i * s + j]? = some u
    rw [this, hj']
  · have hlz : zs.length = len := by rw [hzl, hvl, hlen]
    rw [hlz]
    refine RC.own d w.heap.size s len len (Nat.le_refl _) (by
      have := Nat.le_mul_of_pos_right len hs0
      simp only [maxLen]
      omega) ⟨_, e, heap_alloc_new w _, hcs⟩

/-! ### a store -/
theorem store_run {t : TypeId} {g off : Nat} {v : Value} {c : Array Value} {e : TypeId} (hz : szT P t = some v.cells.size) (hh : w.heap[g]? = some (.cells c e (0, 0))) (hfit : off + v.cells.size ≤ c.size) (h1 : ∀ u ∈ v.cells.toList, u.oneCell' = true) :
    (Instr.storeAt t (.pointer (some ⟨g, off, none⟩)) v).run P w = .ok () (w.setRow g (c.toList.take off ++ v.cells.toList ++ c.toList.drop (off + v.cells.size)).toArray) := by
  simp only [Instr.storeAt, Instr.sureAddr, storeVar, Sem.run_bind, Sem.run_pure, Result.andThen_ok, run_sizeOf hz]
  have := run_storeCells_at P g off e v.cells.toList 0 c w hh (by simpa using hfit) h1
  simp only [Nat.add_zero, Array.length_toList] at this
  simp only [ne_eq, not_true_eq_false, if_false]
  simpa using this

theorem seg_get (l vs : List Value) (off i : Nat) (hfit : off + vs.length ≤ l.length) : (l.take off ++ vs ++ l.drop (off + vs.length))[i]? = if off ≤ i ∧ i < off + vs.length then vs[i - off]? else l[i]? := by
  have hto : (l.take off).length = off := by simp; omega
  by_cases h1 : i < off
  · rw [if_neg (by omega), List.append_assoc, List.getElem?_append_left (by omega), List.getElem?_take, if_pos h1]
  · by_cases h2 : i < off + vs.length
    · rw [if_pos (by omega), List.append_assoc, List.getElem?_append_right (by omega), hto, List.getElem?_append_left (by omega)]
    · rw [if_neg (by omega), List.getElem?_append_right (by simp; omega), List.length_append, hto, List.getElem?_drop]
      congr 1
      omega

/-- A row of the call's own is written: the element at place i becomes y. -/
theorem SR.write {d : Nat} {k : Blk} {c c' : Array Value} {e : TypeId} {xs' : List AV} {ex' : Bool} (hex' : ex' = true → k.ex = true ∧ xs'.length = k.xs.length) (h : SR w0 S nt E H n a w) (hk : H d = some k) (hf : k.fz = false) (hh : w.heap[k.b]? = some (.cells c e (0, 0))) (hcs : c'.size = c.size) (hl : xs'.length * k.s ≤ c.size)
    (hall : ∀ (i : Nat) (x : AV), xs'[i]? = some x → ∃ cs : List Value, cs.length = k.s ∧ RC w (Stb w0 S H w) x cs ∧ ∀ (j : Nat) (v : Value), cs[j]? = some v → c'[i * k.s + j]? = some v) :
    SR w0 S nt E (updH H d (some { k with xs := xs', ex := ex' })) n a (w.setRow k.b c') := by
  have hlt := (h.blk d k hk).lt
  have hbe : Bel w0 S (w.setRow k.b c') := h.bel.row (h.blk d k hk).low rfl rfl rfl (by simp) hh (setRow_heap w k.b c c' e (0, 0) hh) hcs (fun g _ hg => setRow_other w k.b g c' hg)
  have hT : ∀ g, Stb w0 S H w g → Stb w0 S (updH H d (some { k with xs := xs', ex := ex' })) (w.setRow k.b c') g := fun g hg => by
    refine ⟨hg.1, by simpa using hg.2.1, fun d' k' hk' hf' => ?_⟩
    rcases updH_some hk' with ⟨_, he⟩ | ⟨_, he⟩
    · obtain rfl := Option.some.inj he
      exact hg.2.2 d k hk hf
    · exact hg.2.2 d' k' he hf'
  have hne : ∀ g, Stb w0 S H w g → g ≠ k.b := fun g hg e => hg.2.2 d k hk hf e.symm
  have hon : On w (w.setRow k.b c') (Stb w0 S H w) (Stb w0 S (updH H d (some { k with xs := xs', ex := ex' })) (w.setRow k.b c')) := by
    refine ⟨fun g hg => ⟨hT g hg, setRow_other w k.b g c' (hne g hg)⟩, fun g c1 e1 hg => ?_⟩
    by_cases hgb : g = k.b
    · subst hgb
      rw [hh] at hg
      injection hg with hg
      injection hg with hg1 hg2 _
      subst hg1 hg2
      exact ⟨c', setRow_heap w k.b c c' e (0, 0) hh, hcs⟩
    · exact ⟨c1, (setRow_other w k.b g c' hgb).trans hg, rfl⟩
  refine ⟨h.defs, h.size, hbe, by simpa using h.nle, h.nge, fun t ht => (h.tm t ht).mono hon, fun d' k' hk' => ?_, fun d1 d2 k1 k2 e1 e2 he => ?_⟩
  · rcases updH_some hk' with ⟨_, he⟩ | ⟨hd, he⟩
    · obtain rfl := Option.some.inj he
      obtain ⟨g1, g2, c0, e0, g3, g4, g5, _⟩ := h.blk d k hk
      rw [hh] at g3
      injection g3 with g3
      injection g3 with g3 _ _
      subst g3
      refine ⟨g1, g2, c', e, setRow_heap w k.b c c' e (0, 0) hh, by rw [hcs]; exact hl, (fun he => by rw [hcs, (hex' he).2]; exact g5 (hex' he).1), fun i x hi => ?_⟩
      obtain ⟨cs, h3, h4, h5⟩ := hall i x hi
      exact ⟨cs, h3, h4.mono hon, h5⟩
    · refine (h.blk d' k' he).mono hon (setRow_other w k.b k'.b c' fun e => hd (h.inj d' d k' k he hk e))
  · rcases updH_some e1 with ⟨h1, g1⟩ | ⟨h1, g1⟩ <;> rcases updH_some e2 with ⟨h2, g2⟩ | ⟨h2, g2⟩
    · rw [h1, h2]
    · obtain rfl := Option.some.inj g1
      exact absurd (h.inj d d2 k k2 hk g2 he).symm h2
    · obtain rfl := Option.some.inj g2
      exact absurd (h.inj d1 d k1 k g1 hk he) h1
    · exact h.inj d1 d2 k1 k2 g1 g2 he

theorem SR.congr_tm {E' : Env} (h : SR w0 S nt E H n a w) (he : ∀ t, E' t = E t) : SR w0 S nt E' H n a w := by
  have : E' = E := funext he
  rw [this]
  exact h
end
end Go.AVM
