/- Appends, the law. -/
import Derived.Test.YtnanbjnadkoekaaDoorVD5
namespace Go.AVM
set_option linter.unusedSimpArgs false
open Go.RowKit
set_option linter.unusedVariables false
section
variable {P : Program} {w0 w : World} {S : Sg} {nt n : Nat} {E : Env} {H : Hp} {a : Act} {o : Oper}

theorem inv_app {op : Op} {d s bytes : Nat} {fr kp : Bool} {y z : Opd} (h : mOp1 P nt op (.app d s y z bytes fr kp) = true) :
    ∃ x1 x2 t ti, ∃ zv : Value, elOf P t = some ti ∧ ti.size = s ∧ 0 < s ∧ ti.bytes = bytes ∧ ti.zero = some zv ∧ zv.cells.size = s ∧ mOpd nt x1 y = true ∧ mOpd nt x2 z = true ∧ op = .call { callee := .builtin .append, args := #[x1, x2], argTypes := #[t, t] } := by
  cases op <;> first | (simp [mOp2, VOp.base, mOp1] at h; done) | skip
  rename_i c
  obtain ⟨cal, ⟨args⟩, ⟨ts⟩⟩ := c
  cases cal <;> first | (simp [mOp2, VOp.base, mOp1] at h; done) | skip
  rename_i bi
  cases bi <;> first | (simp [mOp2, VOp.base, mOp1] at h; done) | skip
  rcases args with _ | ⟨x, _ | ⟨x2, _ | _⟩⟩ <;> first | (simp [mOp2, VOp.base, mOp1] at h; done) | skip
  rcases ts with _ | ⟨t, _ | ⟨t2, _ | _⟩⟩ <;> first | (simp [mOp2, VOp.base, mOp1] at h; done) | skip
  simp only [mOp2, VOp.base, mOp1, Bool.and_eq_true, beq_iff_eq] at h
  obtain ⟨⟨⟨rfl, h1⟩, h2⟩, h3⟩ := h
  split at h1 <;> first | (cases h1; done) | skip
  simp only [Bool.and_eq_true, beq_iff_eq, decide_eq_true_eq] at h1
  obtain ⟨⟨⟨h4, h5⟩, h6⟩, h7⟩ := h1
  split at h7 <;> first | (cases h7; done) | skip
  exact ⟨x, x2, t, _, _, by assumption, h4, h5, h6, by assumption, by simpa using h7, h2, h3, rfl⟩

theorem below_drew (w : World) : Below w.heap.size w w.drew := ⟨rfl, rfl, rfl, Nat.le_refl _, fun _ _ => rfl⟩

/-- what stands behind an append: the old elements, then the new -/
theorem joined_get {s : Nat} {olds news : List Value} {rest : Array Value} {m : Nat} (ho : olds.length = m * s) (i j : Nat) (hj : j < s) :
    ((olds.toArray ++ news.toArray) ++ rest)[i * s + j]? = if i < m then olds[i * s + j]? else if (i - m) * s + j < news.length then news[(i - m) * s + j]? else rest[i * s + j - (olds.length + news.length)]? := by
  by_cases hi : i < m
  · rw [if_pos hi]
    have hlt : i * s + j < olds.length := by
      rw [ho]
      have : (i + 1) * s ≤ m * s := Nat.mul_le_mul_right _ hi
      rw [Nat.add_mul, Nat.one_mul] at this
      omega
    rw [Array.getElem?_append_left (by simp; omega), Array.getElem?_append_left (by simpa using hlt)]
    simp
  · rw [if_neg hi]
    have hge : olds.length ≤ i * s + j := by
      rw [ho]
      have := Nat.mul_le_mul_right s (Nat.le_of_not_lt hi)
      omega
    have he : i * s + j - olds.length = (i - m) * s + j := by
      rw [ho, Nat.sub_mul]
      have := Nat.mul_le_mul_right s (Nat.le_of_not_lt hi)
      omega
    by_cases hn : (i - m) * s + j < news.length
    · rw [if_pos hn, Array.getElem?_append_left (by simp; omega), Array.getElem?_append_right (by simpa using hge)]
      simp [he]
    · rw [if_neg hn, Array.getElem?_append_right (by simp; omega)]
      simp

theorem a_app {d s bytes : Nat} {fr kp : Bool} {y z : Opd} {K : Env → Hp → Nat → Prop} {L : Laws} (h : SR w0 S nt E H n a w) (hm : mOp P nt o (.app d s y z bytes fr kp) = true) (hv : va L E H n (.app d s y z bytes fr kp) K) : Goes P w0 S nt o a w fr K := by
  obtain ⟨h1, h2, h3⟩ := mOp_dst hm rfl
  obtain ⟨x1, x2, t, ti, zv, hti, hts, hs0, hby, hzv, hzs, hx, hy, hop⟩ := inv_app h3
  obtain ⟨e, he, hi⟩ := elOf_spec hti
  subst hts hby
  have hvx := h.rel.ev hx
  unfold va at hv
  obtain ⟨ys, ad, m, c, cells, news, ⟨hysz, hK⟩, hav, rfl, hcl, hnl, hnget, hn1, hfirst⟩ := src_ok (P := P) h hy hs0 hv (fun ys hC => hC.1)
  have hexec : (execOp a.eval o).run P w = ((Builtin.append_ #[t, t] o.type #[a.eval x1, .slice ad ys.length c]).run P w).andThen fun v w' => .ok (.value v) w' := by
    simp [execOp, hop, resolve, invoke, builtin, hav]
  generalize hey : ev E y = vy at *
  cases vy <;> first | (exact hK.elim) | skip
  · -- onto nothing
    obtain ⟨hK0, hK1⟩ := hK
    obtain ⟨bd, hb⟩ := hvx.emp_inv
    by_cases hys : ys = []
    · subst hys
      have hn0 : news = [] := List.eq_nil_of_length_eq_zero (by simpa using hnl)
      subst hn0
      refine Goes.value h1 (v := .slice bd 0 0) ?_ (h.put (x := .emp) (RC.emp _)) (hK0 rfl) (fun _ => Below.refl _ _)
      rw [hexec, hb]
      have := hfirst.1
      simp only [List.length_nil] at this
      cases bd <;> simp [Builtin.append_, run_underlying he, sizeOf, typeInfo, hi, Builtin.lenOf, this, storeCells]
    · obtain ⟨hb1, hb2, hK⟩ := hK1 hys
      have hpos : 0 < ys.length := List.length_pos_iff.2 hys
      have ho : Firsts P w ti.size 0 (.slice bd 0 0) [] := firsts_of (by simp) (by simp)
      have hgr := append_grow (P := P) (ty := o.type) he hi hzv ho hfirst (by omega) (by omega) (by rw [Nat.zero_add]; exact hb1)
      simp only [Nat.zero_add] at hgr
      have hrun := hexec
      rw [hb, hgr] at hrun
      simp only [Result.andThen_ok] at hrun
      have hge := grownCap_ge w ys.length 0 e
      have hcm := grownCap_le_maxLen w ys.length 0 e (by simp only [maxLen]; omega)
      have hcs : (([] : List Value).toArray ++ news.toArray ++ Builtin.zeroCells zv.cells (grownCap w ys.length 0 e - ys.length)).size = grownCap w ys.length 0 e * ti.size := by
        simp only [Array.size_append, List.size_toArray, size_zeroCells, hzs, hnl, List.length_nil, Nat.zero_add, ← Nat.add_mul]
        congr 1
        omega
      have hb' : Below w.heap.size w (w.drew.alloc (.cells (([] : List Value).toArray ++ news.toArray ++ Builtin.zeroCells zv.cells (grownCap w ys.length 0 e - ys.length)) e)) := (below_drew w).alloc (Nat.le_refl _) _
      refine Goes.value h1 hrun (SR.alloc (k := ⟨w.heap.size, ti.size, ys, false, !kp, false⟩) h (below_drew w) rfl rfl hs0 (by rw [hcs]; exact Nat.mul_le_mul_right _ hge) (by simp) (fun T hT i x hi' => ?_) (fun T => ?_) (Nat.le_refl _) (Nat.le_succ_of_le h.nle)) (hK _ _ h.nle (Nat.lt_succ_self _)) (fun _ => hb')
      · obtain ⟨g1, g2⟩ := hcl i x hi'
        refine ⟨cells i, g1, g2.mono (stb_on hb' hT), fun j u hj => ?_⟩
        have hjl : j < ti.size := by rw [← g1]; exact (List.getElem?_eq_some_iff.1 hj).1
        have := hnget i j x u hi' hj
        have hq := joined_get (olds := []) (news := news) (rest := Builtin.zeroCells zv.cells (grownCap w ys.length 0 e - ys.length)) (m := 0) (s := ti.size) (by simp) i j hjl
        rw [if_neg (by omega), Nat.sub_zero, if_pos (List.getElem?_eq_some_iff.1 this).1, this] at hq
        exact hq
      · refine RC.own d w.heap.size ti.size ys.length _ hge hcm ⟨_, e, heap_alloc_new w.drew _, hcs⟩
  · -- onto a row of one's own
    rename_i d' b s' len
    obtain ⟨k, hk, rfl, hks, rfl, hf, hfr, rfl, hb1, hb2, hK⟩ := hK
    obtain ⟨cap, hb, hlc, hcm, cur, e', hh, hcs⟩ := hvx.own_inv
    obtain ⟨hlow, hpos, c2, e2, hh2, hlen, hex, hall⟩ := h.blk d' k hk
    rw [hh2] at hh
    injection hh with hh
    injection hh with hh he' _
    subst hh he'
    rw [hks] at hlen hall
    by_cases hroom : k.xs.length + ys.length ≤ cap
    · have hfit : k.xs.length * ti.size + news.length ≤ c2.size := by
        rw [hnl, hcs, ← Nat.add_mul]
        exact Nat.mul_le_mul_right _ hroom
      have hrm := append_room (P := P) (ty := o.type) he hi hh2 hnl hfirst hn1 hroom hfit
      have hrun := hexec
      rw [hb, hrm] at hrun
      simp only [Result.andThen_ok] at hrun
      have hseg := fun q => seg_get c2.toList news (k.xs.length * ti.size) q (by simpa using hfit)
      have hw := h.write (xs' := k.xs ++ ys) (ex' := false) (by simp) hk hf hh2 (c' := (c2.toList.take (k.xs.length * ti.size) ++ news ++ c2.toList.drop (k.xs.length * ti.size + news.length)).toArray) (by simp; omega) (by rw [hks, List.length_append, Nat.add_mul, ← hnl]; exact hfit) (fun i x hi' => by
        rw [hks]
        rcases Nat.lt_or_ge i k.xs.length with hlt | hge
        · rw [List.getElem?_append_left hlt] at hi'
          obtain ⟨cs, g1, g2, g3⟩ := hall i x hi'
          refine ⟨cs, g1, g2, fun j u hj => ?_⟩
          have hjl := (List.getElem?_eq_some_iff.1 hj).1
          have : (i + 1) * ti.size ≤ k.xs.length * ti.size := Nat.mul_le_mul_right _ hlt
          rw [Nat.add_mul, Nat.one_mul] at this
          rw [List.getElem?_toArray, hseg, if_neg (by omega)]
          simpa using g3 j u hj
        · rw [List.getElem?_append_right hge] at hi'
          obtain ⟨g1, g2⟩ := hcl _ x hi'
          refine ⟨_, g1, g2, fun j u hj => ?_⟩
          have hjl : j < ti.size := by rw [← g1]; exact (List.getElem?_eq_some_iff.1 hj).1
          have hq := hnget _ j x u hi' hj
          have hqlt := (List.getElem?_eq_some_iff.1 hq).1
          have hmm := Nat.mul_le_mul_right ti.size hge
          have : i * ti.size + j - k.xs.length * ti.size = (i - k.xs.length) * ti.size + j := by
            rw [Nat.sub_mul]
            omega
          rw [List.getElem?_toArray, hseg, if_pos (by omega), this]
          exact hq)
      have hKK := hK k.b n (Nat.le_refl _) (.inl rfl)
      rw [← hks] at hKK
      refine Goes.value h1 hrun (SR.put (x := .own d' k.b ti.size (k.xs.length + ys.length)) hw (u := .slice (some ⟨k.b, 0, none⟩) (k.xs.length + ys.length) cap) ?_) ?_ (fun he => ?_)
      · refine RC.own d' k.b ti.size _ cap hroom hcm ⟨_, e2, setRow_heap w k.b c2 _ e2 (0, 0) hh2, ?_⟩
        simp
        omega
      · have := hK k.b n (Nat.le_refl _) (.inl rfl)
        have hkk : ({ k with xs := k.xs ++ ys, ex := false } : Blk) = ⟨k.b, ti.size, k.xs ++ ys, false, k.row, false⟩ := by
          cases k
          simp_all
        rw [hkk]
        exact this
      · -- nothing is brought: the row is as it was
        have hc1 := hex (hfr he)
        rw [hks, hcs] at hc1
        have hcap : cap = k.xs.length := Nat.eq_of_mul_eq_mul_right hs0 hc1
        have hy0 : ys = [] := List.eq_nil_of_length_eq_zero (by omega)
        subst hy0
        have hn0 : news = [] := List.eq_nil_of_length_eq_zero (by simpa using hnl)
        subst hn0
        simp only [List.append_nil, List.length_nil, Nat.add_zero, List.take_append_drop, Array.toArray_toList]
        rw [setRow_self w k.b c2 e2 (0, 0) hh2]
        exact Below.refl _ _
    · have ho : Firsts P w ti.size k.xs.length (.slice (some ⟨k.b, 0, none⟩) k.xs.length cap) (c2.toList.take (k.xs.length * ti.size)) := by
        refine firsts_of (by simp; omega) fun _ => ⟨k.b, 0, rfl, fun j v hj => ?_⟩
        rw [List.getElem?_take] at hj
        split at hj <;> first | (cases hj; done) | skip
        simp only [World.cell?, hh2, Nat.zero_add]
        simpa using hj
      have hgr := append_grow (P := P) (ty := o.type) he hi hzv ho hfirst (by omega) (by omega) hb1
      have hrun := hexec
      rw [hb, hgr] at hrun
      simp only [Result.andThen_ok] at hrun
      have hge := grownCap_ge w (k.xs.length + ys.length) cap e
      have hcm' := grownCap_le_maxLen w (k.xs.length + ys.length) cap e (by simp only [maxLen]; omega)
      have hol : (c2.toList.take (k.xs.length * ti.size)).length = k.xs.length * ti.size := by simp; omega
      have hcs' : ((c2.toList.take (k.xs.length * ti.size)).toArray ++ news.toArray ++ Builtin.zeroCells zv.cells (grownCap w (k.xs.length + ys.length) cap e - (k.xs.length + ys.length))).size = grownCap w (k.xs.length + ys.length) cap e * ti.size := by
        simp only [Array.size_append, List.size_toArray, size_zeroCells, hzs, hnl, hol, ← Nat.add_mul]
        congr 1
        omega
      have hb' : Below w.heap.size w (w.drew.alloc (.cells ((c2.toList.take (k.xs.length * ti.size)).toArray ++ news.toArray ++ Builtin.zeroCells zv.cells (grownCap w (k.xs.length + ys.length) cap e - (k.xs.length + ys.length))) e)) := (below_drew w).alloc (Nat.le_refl _) _
      refine Goes.value h1 hrun (SR.alloc (dk := d') (k := ⟨w.heap.size, ti.size, k.xs ++ ys, false, k.row, false⟩) h (below_drew w) rfl rfl hs0 (by rw [hcs', List.length_append]; exact Nat.mul_le_mul_right _ hge) (by simp) (fun T hT i x hi' => ?_) (fun T => ?_) (Nat.le_refl _) (Nat.le_succ_of_le h.nle)) (hK w.heap.size (w.heap.size + 1) (by have := h.nle; omega) (.inr ⟨h.nle, Nat.lt_succ_self _⟩)) (fun _ => hb')
      · simp only at hi'
        rcases Nat.lt_or_ge i k.xs.length with hlt | hgei
        · rw [List.getElem?_append_left hlt] at hi'
          obtain ⟨cs, g1, g2, g3⟩ := hall i x hi'
          refine ⟨cs, g1, g2.mono (stb_on hb' hT), fun j u hj => ?_⟩
          have hjl : j < ti.size := by rw [← g1]; exact (List.getElem?_eq_some_iff.1 hj).1
          have hq := joined_get (news := news) (rest := Builtin.zeroCells zv.cells (grownCap w (k.xs.length + ys.length) cap e - (k.xs.length + ys.length))) hol i j hjl
          have : (i + 1) * ti.size ≤ k.xs.length * ti.size := Nat.mul_le_mul_right _ hlt
          rw [Nat.add_mul, Nat.one_mul] at this
          rw [if_pos hlt, List.getElem?_take, if_pos (by omega)] at hq
          rw [hq]
          simpa using g3 j u hj
        · rw [List.getElem?_append_right hgei] at hi'
          obtain ⟨g1, g2⟩ := hcl _ x hi'
          refine ⟨_, g1, g2.mono (stb_on hb' hT), fun j u hj => ?_⟩
          have hjl : j < ti.size := by rw [← g1]; exact (List.getElem?_eq_some_iff.1 hj).1
          have hqq := hnget _ j x u hi' hj
          have hq := joined_get (news := news) (rest := Builtin.zeroCells zv.cells (grownCap w (k.xs.length + ys.length) cap e - (k.xs.length + ys.length))) hol i j hjl
          rw [if_neg (by omega), if_pos (List.getElem?_eq_some_iff.1 hqq).1, hqq] at hq
          exact hq
      · exact RC.own d' w.heap.size ti.size (k.xs.length + ys.length) _ hge hcm' ⟨_, e, heap_alloc_new w.drew _, hcs'⟩
end
end Go.AVM
