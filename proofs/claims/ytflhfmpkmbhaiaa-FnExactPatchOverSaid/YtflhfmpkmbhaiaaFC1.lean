/- Hunks: what the law's helpers give. -/
import Derived.Test.YtflhfmpkmbhaiaaVW
import Derived.Test.YtflhfmpkmbhaiaaFB3
set_option linter.unusedSimpArgs false
set_option linter.unusedVariables false
namespace Go.AVM
def strsF (xs : List ByteArray) : AV := .lsl none xs.length ((roomy xs).map .str)
theorem IsStr.wk {lo hi : Nat} {xs : List ByteArray} {r : AV} (h : IsStr lo hi xs r) : Wk r (strs xs) := by
  rcases h with ⟨rfl, rfl⟩ | ⟨g, _, _, rfl⟩
  · exact .emp
  · refine .lsl _ _ _ _ (by simp) (by simp [roomy]) fun i x y hx hy => ?_
    rw [List.getElem?_map] at hx hy
    obtain ⟨z, hz, rfl⟩ := Option.map_eq_some_iff.1 hy
    have hlt := (List.getElem?_eq_some_iff.1 hz).1
    unfold roomy at hx
    rw [List.getElem?_append_left hlt, hz] at hx
    obtain rfl := Option.some.inj hx
    exact .refl _
theorem IsStr.tin {lo hi : Nat} {xs : List ByteArray} {r : AV} (h : IsStr lo hi xs r) : Tin lo hi (tags r) := by
  rcases h with ⟨rfl, rfl⟩ | ⟨g, h1, h2, rfl⟩
  · exact .nil
  · simp only [tags, tagsL_strs]
    exact Tin.nil.cons (by simp) h1 h2
theorem IsStr.mono {lo hi lo' hi' : Nat} {xs : List ByteArray} {r : AV} (h : IsStr lo hi xs r) (h1 : lo' ≤ lo) (h2 : hi ≤ hi') : IsStr lo' hi' xs r :=
  h.imp id fun ⟨g, a, b, c⟩ => ⟨g, by omega, by omega, c⟩
theorem IsStr.fld {lo hi : Nat} {xs : List ByteArray} {r : AV} (h : IsStr lo hi xs r) : r.isAgg = false ∧ r.sz = 1 := by
  rcases h with ⟨rfl, rfl⟩ | ⟨g, h1, h2, rfl⟩ <;> exact ⟨rfl, rfl⟩
theorem pf_strs {fl : Bool} (xs : List ByteArray) : Pf fl (strs xs) := .lsl _ _ (by simp) (by simp)
theorem pf_strsF (xs : List ByteArray) : Pf true (strsF xs) := .lsl _ _ (by simp) (by simp [roomy])
structure HunkL where
  at_ : Int
  less : List ByteArray
  more : List ByteArray
  deriving DecidableEq
def hunkV (h : HunkL) : AV := .agg [.int .i64 h.at_, strs h.less, strs h.more]
abbrev hunksV (hs : List HunkL) : AV := lv hunkV hs
def hunkF (h : HunkL) : AV := .agg [.int .i64 h.at_, strsF h.less, strsF h.more]
def fillH : AV := .agg [.int .i64 (-7000000000000000101), strs [spare], strs [spare]]
def wfS (xs : List ByteArray) : Prop := xs.length ≤ 9223372036854775807 ∧ ∀ s ∈ xs, s.size ≤ 9223372036854775807
def wfH (h : HunkL) : Prop := wfS h.less ∧ wfS h.more
def okH (h : HunkL) : Prop := okL h.less ∧ okL h.more
def wfHs (hs : List HunkL) : Prop := hs.length ≤ 9223372036854775807 ∧ ∀ h ∈ hs, wfH h
def okHs (hs : List HunkL) : Prop := hs.length ≤ 1000000 ∧ ∀ h ∈ hs, okH h
theorem pl_hunk {fl : Bool} (h : HunkL) : Pl fl (hunkV h) := .agg _ fun g hg => by
  simp at hg
  rcases hg with rfl | rfl | rfl
  · exact .int _ _
  · exact pf_strs _
  · exact pf_strs _
theorem pl_hunkF (h : HunkL) : Pl true (hunkF h) := .agg _ fun g hg => by
  simp at hg
  rcases hg with rfl | rfl | rfl
  · exact .int _ _
  · exact pf_strsF _
  · exact pf_strsF _
theorem wk_l3 {a b c a' b' c' : AV} (h1 : Wk a a') (h2 : Wk b b') (h3 : Wk c c') : Wk (.agg [a, b, c]) (.agg [a', b', c']) := by
  refine .agg _ _ rfl fun i x y hx hy => ?_
  rcases i with _ | _ | _ | i
  · simp at hx hy; subst hx hy; exact h1
  · simp at hx hy; subst hx hy; exact h2
  · simp at hx hy; subst hx hy; exact h3
  · simp at hx

theorem s_szHunk (h : HunkL) (k : Nat) (hk : k ≤ 1000000) (hw : wfH h) : OK Go.Proofs.Try.prog 19 [hunkV h, .int .i64 k] (fun _ _ r => ∃ i : Int, r = .int .i64 i ∧ (0 ≤ i → okH h ∧ ∃ k' : Nat, i = k' ∧ k' ≤ k)) := by
  refine fn_ok k19 rfl ?_
  have h1 := fun k hk => s15' h.less k hk hw.1
  have h2 := fun k hk => s15' h.more k hk hw.2
  generalize OK Go.Proofs.Try.prog = L at *
  intro lo
  simp -dsimp only [↓SD, SP, ↓reduceIte, Nat.reduceEqDiff, ini, frz, rdAo, rd3o, rd2o, rdpo, rd1o, fnv, intv, VOp.dst, getRo, solEo, solo, solo1, allsz, List.all_cons, List.all_nil, Bool.and_true, beq_self_eq_true, List.length_cons, List.length_nil, Nat.zero_add, srcv, Nat.le_refl, List.take_succ_cons, List.take_zero, and_self, if_true, Nat.reduceAdd, Nat.reduceLT, eq_self, c19, hunkV]
  refine bal_mk fun b hb => ?_
  simp -dsimp only [↓SD, SP, ↓reduceIte, Nat.reduceEqDiff, ini, frz, rdAo, rd3o, rd2o, rdpo, rd1o, fnv, intv, VOp.dst, getRo, solEo, solo, solo1, allsz, List.all_cons, List.all_nil, Bool.and_true, beq_self_eq_true, List.length_cons, List.length_nil, Nat.zero_add, srcv, Nat.le_refl, List.take_succ_cons, List.take_zero, and_self, if_true, Nat.reduceAdd, Nat.reduceLT, eq_self, fldAv, ↓ldv_f, ↓ldv_n, ↓stv_f, ↓stv_a, fldv, setf, bldv, small, Bool.true_and, List.getElem?_cons_zero, List.getElem?_cons_succ, List.set_cons_zero, List.set_cons_succ, Bool.false_eq_true, if_false, true_and, and_true, reduceCtorEq, false_implies, implies_true, forall_const, ↓rd_strs, ↓r_any]
  refine call_rule (h1 k hk) ?_
  rintro lo1 hi1 r g1 g2 ⟨i, rfl, hi⟩
  by_cases hneg : i < 0
  · simp -dsimp only [↓SD, SP, ↓reduceIte, Nat.reduceEqDiff, ini, frz, rdAo, rd3o, rd2o, rdpo, rd1o, fnv, intv, VOp.dst, getRo, solEo, solo, solo1, allsz, List.all_cons, List.all_nil, Bool.and_true, beq_self_eq_true, List.length_cons, List.length_nil, Nat.zero_add, srcv, Nat.le_refl, List.take_succ_cons, List.take_zero, and_self, if_true, Nat.reduceAdd, Nat.reduceLT, eq_self, hneg, ↓r_any]
    exact ⟨_, rfl, by omega⟩
  obtain ⟨ho, k1, rfl, hk1⟩ := hi (by omega)
  simp -dsimp only [↓SD, SP, ↓reduceIte, Nat.reduceEqDiff, ini, frz, rdAo, rd3o, rd2o, rdpo, rd1o, fnv, intv, VOp.dst, getRo, solEo, solo, solo1, allsz, List.all_cons, List.all_nil, Bool.and_true, beq_self_eq_true, List.length_cons, List.length_nil, Nat.zero_add, srcv, Nat.le_refl, List.take_succ_cons, List.take_zero, and_self, if_true, Nat.reduceAdd, Nat.reduceLT, eq_self, fldAv, ↓ldv_f, ↓ldv_n, ↓stv_f, ↓stv_a, fldv, setf, bldv, small, Bool.true_and, List.getElem?_cons_zero, List.getElem?_cons_succ, List.set_cons_zero, List.set_cons_succ, Bool.false_eq_true, if_false, true_and, and_true, reduceCtorEq, false_implies, implies_true, forall_const, hneg, ↓rd_strs, ↓r_any]
  refine call_rule (h2 k1 (by omega)) ?_
  rintro lo2 hi2 r g3 g4 ⟨i2, rfl, hi2⟩
  by_cases hneg2 : i2 < 0
  · simp -dsimp only [↓SD, SP, ↓reduceIte, Nat.reduceEqDiff, ini, frz, rdAo, rd3o, rd2o, rdpo, rd1o, fnv, intv, VOp.dst, getRo, solEo, solo, solo1, allsz, List.all_cons, List.all_nil, Bool.and_true, beq_self_eq_true, List.length_cons, List.length_nil, Nat.zero_add, srcv, Nat.le_refl, List.take_succ_cons, List.take_zero, and_self, if_true, Nat.reduceAdd, Nat.reduceLT, eq_self, hneg2, ↓r_any]
    exact ⟨_, rfl, by omega⟩
  obtain ⟨ho2, k2, rfl, hk2⟩ := hi2 (by omega)
  simp -dsimp only [↓SD, SP, ↓reduceIte, Nat.reduceEqDiff, ini, frz, rdAo, rd3o, rd2o, rdpo, rd1o, fnv, intv, VOp.dst, getRo, solEo, solo, solo1, allsz, List.all_cons, List.all_nil, Bool.and_true, beq_self_eq_true, List.length_cons, List.length_nil, Nat.zero_add, srcv, Nat.le_refl, List.take_succ_cons, List.take_zero, and_self, if_true, Nat.reduceAdd, Nat.reduceLT, eq_self, hneg2, ↓r_any]
  exact ⟨_, rfl, fun _ => ⟨⟨ho, ho2⟩, k2, rfl, by omega⟩⟩
theorem rd_hunk (H : Hp) (h : HunkL) : rd3o false H (hunkV h) = some (hunkV h, []) := by
  have h1 : (h.less.map AV.str).take h.less.length = h.less.map .str := List.take_of_length_le (by simp)
  have h2 : (h.more.map AV.str).take h.more.length = h.more.map .str := List.take_of_length_le (by simp)
  simp [hunkV, strs, rd3o, rd2o, rdpo, rdso, rd1o, h1, h2]
theorem rd_hunkF (H : Hp) (h : HunkL) : rd3o true H (hunkF h) = some (hunkF h, []) := by
  simp [hunkF, strsF, rd3o, rd2o, rdpo, rdso, rd1o]
theorem el_hunk : El 3 hunkV := ⟨fun x => ⟨_, rfl, rfl⟩, rd_hunk⟩
theorem s_szHunkS (xs : List HunkL) (k : Nat) (hk : k ≤ 1000000) (hw : wfHs xs) : OK Go.Proofs.Try.prog 6 [hunksV xs, .int .i64 k] (fun _ _ r => ∃ i : Int, r = .int .i64 i ∧ (0 ≤ i → okHs xs ∧ ∃ k' : Nat, i = k' ∧ k' ≤ k)) :=
  g_sz (f := 6) (s := 3) (fT := 19) k6 el_hunk okH xs k hk hw.1 fun x hx k hk => s_szHunk x k hk (hw.2 x hx)
/-- a hunk that toHunk has made -/
def IsHunk (lo hi : Nat) (h : HunkL) (bare : Bool) (r : AV) : Prop := ∃ l1 l2 m1 m2, r = .agg [.int .i64 h.at_, l1, l2] ∧ lo ≤ m1 ∧ m1 ≤ m2 ∧ m2 ≤ hi ∧ IsStr lo m1 h.less l1 ∧ IsStr m2 hi h.more l2 ∧ (bare = false → Wk l1 (strsF h.less) ∧ Wk l2 (strsF h.more))
theorem s_toHunk (h : HunkL) (bare : Bool) (ho : okH h) : OK Go.Proofs.Try.prog 23 [hunkV h, .bool bare] (fun lo hi r => IsHunk lo hi h bare r) := by
  refine fn_ok k23 rfl ?_
  have h1 := s_toStringS h.less bare ho.1
  have h2 := s_toStringS h.more bare ho.2
  generalize OK Go.Proofs.Try.prog = L at *
  intro lo
  simp -dsimp only [↓SD, SP, ↓reduceIte, Nat.reduceEqDiff, ini, frz, rdAo, rd3o, rd2o, rdpo, rd1o, fnv, intv, VOp.dst, getRo, solEo, solo, solo1, allsz, List.all_cons, List.all_nil, Bool.and_true, beq_self_eq_true, List.length_cons, List.length_nil, Nat.zero_add, srcv, Nat.le_refl, List.take_succ_cons, List.take_zero, and_self, if_true, Nat.reduceAdd, Nat.reduceLT, eq_self, c23, hunkV]
  refine bal_mk fun b hb => ?_
  simp -dsimp only [↓SD, SP, ↓reduceIte, Nat.reduceEqDiff, ini, frz, rdAo, rd3o, rd2o, rdpo, rd1o, fnv, intv, VOp.dst, getRo, solEo, solo, solo1, allsz, List.all_cons, List.all_nil, Bool.and_true, beq_self_eq_true, List.length_cons, List.length_nil, Nat.zero_add, srcv, Nat.le_refl, List.take_succ_cons, List.take_zero, and_self, if_true, Nat.reduceAdd, Nat.reduceLT, eq_self]
  refine bal_mk fun b1 hb1 => ?_
  simp -dsimp only [↓SD, SP, ↓reduceIte, Nat.reduceEqDiff, ini, frz, rdAo, rd3o, rd2o, rdpo, rd1o, fnv, intv, VOp.dst, getRo, solEo, solo, solo1, allsz, List.all_cons, List.all_nil, Bool.and_true, beq_self_eq_true, List.length_cons, List.length_nil, Nat.zero_add, srcv, Nat.le_refl, List.take_succ_cons, List.take_zero, and_self, if_true, Nat.reduceAdd, Nat.reduceLT, eq_self]
  refine bal_mk fun b2 hb2 => ?_
  simp -dsimp only [↓SD, SP, ↓reduceIte, Nat.reduceEqDiff, ini, frz, rdAo, rd3o, rd2o, rdpo, rd1o, fnv, intv, VOp.dst, getRo, solEo, solo, solo1, allsz, List.all_cons, List.all_nil, Bool.and_true, beq_self_eq_true, List.length_cons, List.length_nil, Nat.zero_add, srcv, Nat.le_refl, List.take_succ_cons, List.take_zero, and_self, if_true, Nat.reduceAdd, Nat.reduceLT, eq_self, fldAv, ↓ldv_f, ↓ldv_n, ↓stv_f, ↓stv_a, fldv, setf, bldv, small, Bool.true_and, List.getElem?_cons_zero, List.getElem?_cons_succ, List.set_cons_zero, List.set_cons_succ, Bool.false_eq_true, if_false, true_and, and_true, reduceCtorEq, false_implies, implies_true, forall_const, ↓rd_strs, ↓r_any]
  refine call_rule h1 ?_
  rintro lo1 hi1 l1 g1 g2 ⟨q1, q1'⟩
  obtain ⟨a1, a1'⟩ := q1.fld
  simp -dsimp only [↓SD, SP, ↓reduceIte, Nat.reduceEqDiff, ini, frz, rdAo, rd3o, rd2o, rdpo, rd1o, fnv, intv, VOp.dst, getRo, solEo, solo, solo1, allsz, List.all_cons, List.all_nil, Bool.and_true, beq_self_eq_true, List.length_cons, List.length_nil, Nat.zero_add, srcv, Nat.le_refl, List.take_succ_cons, List.take_zero, and_self, if_true, Nat.reduceAdd, Nat.reduceLT, eq_self, fldAv, ↓ldv_f, ↓ldv_n, ↓stv_f, ↓stv_a, fldv, setf, bldv, small, Bool.true_and, List.getElem?_cons_zero, List.getElem?_cons_succ, List.set_cons_zero, List.set_cons_succ, Bool.false_eq_true, if_false, true_and, and_true, reduceCtorEq, false_implies, implies_true, forall_const, ↓rd_strs, ↓r_any, a1, a1']
  refine call_rule h2 ?_
  rintro lo2 hi2 l2 g3 g4 ⟨q2, q2'⟩
  obtain ⟨a2, a2'⟩ := q2.fld
  have e1 := fun H => sol1_wk (fl := false) (pf_strs h.less) q1.wk H
  have e2 := fun H => sol1_wk (fl := false) (pf_strs h.more) q2.wk H
  simp -dsimp only [↓SD, SP, ↓reduceIte, Nat.reduceEqDiff, ini, frz, rdAo, rd3o, rd2o, rdpo, rd1o, fnv, intv, VOp.dst, getRo, solEo, solo, solo1, allsz, List.all_cons, List.all_nil, Bool.and_true, beq_self_eq_true, List.length_cons, List.length_nil, Nat.zero_add, srcv, Nat.le_refl, List.take_succ_cons, List.take_zero, and_self, if_true, Nat.reduceAdd, Nat.reduceLT, eq_self, fldAv, ↓ldv_f, ↓ldv_n, ↓stv_f, ↓stv_a, fldv, setf, bldv, small, Bool.true_and, List.getElem?_cons_zero, List.getElem?_cons_succ, List.set_cons_zero, List.set_cons_succ, Bool.false_eq_true, if_false, true_and, and_true, reduceCtorEq, false_implies, implies_true, forall_const, ↓r_any, a2, a2', ↓e1, ↓e2, solso]
  refine ⟨l1, l2, hi1, lo2, rfl, by omega, g3, g4, q1.mono (by omega) (Nat.le_refl _), q2, fun hb => ?_⟩
  obtain ⟨b1, _, _, rfl⟩ := q1' hb
  obtain ⟨b2, _, _, rfl⟩ := q2' hb
  exact ⟨Wk.strip _ _ _ (by simp [roomy]), Wk.strip _ _ _ (by simp [roomy])⟩
theorem IsHunk.wk {lo hi : Nat} {h : HunkL} {bare : Bool} {r : AV} (hr : IsHunk lo hi h bare r) : Wk r (hunkV h) := by
  obtain ⟨l1, l2, m1, m2, rfl, _, _, _, q1, q2, _⟩ := hr
  exact wk_l3 (.refl _) q1.wk q2.wk
theorem IsHunk.wkF {lo hi : Nat} {h : HunkL} {r : AV} (hr : IsHunk lo hi h false r) : Wk r (hunkF h) := by
  obtain ⟨l1, l2, m1, m2, rfl, _, _, _, q1, q2, q3⟩ := hr
  exact wk_l3 (.refl _) (q3 rfl).1 (q3 rfl).2
theorem IsHunk.tin {lo hi : Nat} {h : HunkL} {bare : Bool} {r : AV} (hr : IsHunk lo hi h bare r) : Tin lo hi (tags r) := by
  obtain ⟨l1, l2, m1, m2, rfl, h1, h2, h3, q1, q2, _⟩ := hr
  simp only [tags, tagsL, List.nil_append, List.append_nil]
  exact q1.tin.app q2.tin h2 (by omega) (by omega)
theorem IsHunk.agg {lo hi : Nat} {h : HunkL} {bare : Bool} {r : AV} (hr : IsHunk lo hi h bare r) : ∃ fs, r = .agg fs ∧ fs.length = 3 := by
  obtain ⟨l1, l2, m1, m2, rfl, _⟩ := hr
  exact ⟨_, rfl, rfl⟩
def FlH (r : AV) : Prop := ∃ b1 b2 : Nat, r = .agg [.int .i64 (-7000000000000000101), .lsl (some (b1, 1)) 1 ([spare].map .str), .lsl (some (b2, 1)) 1 ([spare].map .str)]
theorem FlH.wk {r : AV} (h : FlH r) : Wk r fillH := by
  obtain ⟨b1, b2, rfl⟩ := h
  exact wk_l3 (.refl _) (Wk.strip _ _ _ (by simp)) (Wk.strip _ _ _ (by simp))
theorem s_fillerHunk : OK Go.Proofs.Try.prog 24 [] (fun lo hi r => FlH r ∧ Tin lo hi (tags r)) := by
  refine fn_ok k24 rfl ?_
  generalize OK Go.Proofs.Try.prog = L at *
  intro lo
  simp -dsimp only [↓SD, SP, ↓reduceIte, Nat.reduceEqDiff, ini, frz, rdAo, rd3o, rd2o, rdpo, rd1o, fnv, intv, VOp.dst, getRo, solEo, solo, solo1, allsz, List.all_cons, List.all_nil, Bool.and_true, beq_self_eq_true, List.length_cons, List.length_nil, Nat.zero_add, srcv, Nat.le_refl, List.take_succ_cons, List.take_zero, and_self, if_true, Nat.reduceAdd, Nat.reduceLT, eq_self, c24]
  refine bal_mk fun b hb => ?_
  simp -dsimp only [↓SD, SP, ↓reduceIte, Nat.reduceEqDiff, ini, frz, rdAo, rd3o, rd2o, rdpo, rd1o, fnv, intv, VOp.dst, getRo, solEo, solo, solo1, allsz, List.all_cons, List.all_nil, Bool.and_true, beq_self_eq_true, List.length_cons, List.length_nil, Nat.zero_add, srcv, Nat.le_refl, List.take_succ_cons, List.take_zero, and_self, if_true, Nat.reduceAdd, Nat.reduceLT, eq_self]
  refine bal_mk fun b1 hb1 => ?_
  simp -dsimp only [↓SD, SP, ↓reduceIte, Nat.reduceEqDiff, ini, frz, rdAo, rd3o, rd2o, rdpo, rd1o, fnv, intv, VOp.dst, getRo, solEo, solo, solo1, allsz, List.all_cons, List.all_nil, Bool.and_true, beq_self_eq_true, List.length_cons, List.length_nil, Nat.zero_add, srcv, Nat.le_refl, List.take_succ_cons, List.take_zero, and_self, if_true, Nat.reduceAdd, Nat.reduceLT, eq_self]
  refine bal_mk fun b2 hb2 => ?_
  simp -dsimp only [↓SD, SP, ↓reduceIte, Nat.reduceEqDiff, ini, frz, rdAo, rd3o, rd2o, rdpo, rd1o, fnv, intv, VOp.dst, getRo, solEo, solo, solo1, allsz, List.all_cons, List.all_nil, Bool.and_true, beq_self_eq_true, List.length_cons, List.length_nil, Nat.zero_add, srcv, Nat.le_refl, List.take_succ_cons, List.take_zero, and_self, if_true, Nat.reduceAdd, Nat.reduceLT, eq_self, fldAv, ↓ldv_f, ↓ldv_n, ↓stv_f, ↓stv_a, fldv, setf, bldv, small, Bool.true_and, List.getElem?_cons_zero, List.getElem?_cons_succ, List.set_cons_zero, List.set_cons_succ, Bool.false_eq_true, if_false, true_and, and_true, reduceCtorEq, false_implies, implies_true, forall_const, solso]
  refine ⟨⟨b1, b2, rfl⟩, ?_⟩
  · simp only [tags, tagsL, List.nil_append, List.append_nil, List.cons_append]
    exact ((Tin.nil.cons (by simp) (by omega) (by omega)).cons (by simp; omega) (by omega) (by omega) : Tin lo (b2 + 1) [b1, b2])
def fillL : HunkL := ⟨-7000000000000000101, [spare], [spare]⟩
theorem s_toHunkS (xs : List HunkL) (bare : Bool) (ho : okHs xs) : OK Go.Proofs.Try.prog 9 [hunksV xs, .bool bare] (fun lo hi r => IsL 3 (fun lo hi x r => IsHunk lo hi x bare r) FlH lo hi xs bare r) :=
  g_to (f := 9) (s := 3) (bytes := 56) (fT := 23) (fF := 24) (fR := 22) (z := .agg [.int .i64 0, .emp, .emp]) k9 (by decide) (by decide) el_hunk _ _
    (fun lo hi x r hr => ⟨hr.agg, hr.tin, fun H => sol_wk hr.wk (pl_hunk (fl := false) x) H⟩) (fun r hr => ⟨by obtain ⟨b1, b2, rfl⟩ := hr; exact ⟨_, rfl, rfl⟩, fun H => sol_wk hr.wk (pl_hunk (fl := false) fillL) H⟩) xs bare ho.1 (fun k hk => s54 k hk) (fun x hx => s_toHunk x bare (ho.2 x hx))
    s_fillerHunk
theorem eqStrs (xs ys : List ByteArray) (h : xs.length ≤ 10000000) : OK Go.Proofs.Try.prog 28 [strs xs, strs ys] (fun _ _ r => r = .bool (decide (xs = ys))) := s49 xs ys h
theorem s_eqHunk (x y : HunkL) (h1 : x.less.length ≤ 10000000) (h2 : x.more.length ≤ 10000000) : OK Go.Proofs.Try.prog 27 [hunkV x, hunkV y] (fun _ _ r => r = .bool (decide (x = y))) := by
  refine fn_ok k27 rfl ?_
  have e1 := s49 x.less y.less h1
  have e2 := s49 x.more y.more h2
  generalize OK Go.Proofs.Try.prog = L at *
  intro lo
  obtain ⟨a, l, m⟩ := x
  obtain ⟨a', l', m'⟩ := y
  simp -dsimp only [↓SD, SP, ↓reduceIte, Nat.reduceEqDiff, ini, frz, rdAo, rd3o, rd2o, rdpo, rd1o, fnv, intv, VOp.dst, getRo, solEo, solo, solo1, allsz, List.all_cons, List.all_nil, Bool.and_true, beq_self_eq_true, List.length_cons, List.length_nil, Nat.zero_add, srcv, Nat.le_refl, List.take_succ_cons, List.take_zero, and_self, if_true, Nat.reduceAdd, Nat.reduceLT, eq_self, c27, hunkV]
  refine bal_mk fun b hb => ?_
  simp -dsimp only [↓SD, SP, ↓reduceIte, Nat.reduceEqDiff, ini, frz, rdAo, rd3o, rd2o, rdpo, rd1o, fnv, intv, VOp.dst, getRo, solEo, solo, solo1, allsz, List.all_cons, List.all_nil, Bool.and_true, beq_self_eq_true, List.length_cons, List.length_nil, Nat.zero_add, srcv, Nat.le_refl, List.take_succ_cons, List.take_zero, and_self, if_true, Nat.reduceAdd, Nat.reduceLT, eq_self]
  refine bal_mk fun b1 hb1 => ?_
  by_cases ha : a = a'
  · simp -dsimp only [↓SD, SP, ↓reduceIte, Nat.reduceEqDiff, ini, frz, rdAo, rd3o, rd2o, rdpo, rd1o, fnv, intv, VOp.dst, getRo, solEo, solo, solo1, allsz, List.all_cons, List.all_nil, Bool.and_true, beq_self_eq_true, List.length_cons, List.length_nil, Nat.zero_add, srcv, Nat.le_refl, List.take_succ_cons, List.take_zero, and_self, if_true, Nat.reduceAdd, Nat.reduceLT, eq_self, fldAv, ↓ldv_f, ↓ldv_n, ↓stv_f, ↓stv_a, fldv, setf, bldv, small, Bool.true_and, List.getElem?_cons_zero, List.getElem?_cons_succ, List.set_cons_zero, List.set_cons_succ, Bool.false_eq_true, if_false, true_and, and_true, reduceCtorEq, false_implies, implies_true, forall_const, ha, ↓rd_strs, ↓r_any]
    refine call_rule e1 ?_
    rintro lo1 hi1 r - - rfl
    by_cases hl : l = l'
    · simp -dsimp only [↓SD, SP, ↓reduceIte, Nat.reduceEqDiff, ini, frz, rdAo, rd3o, rd2o, rdpo, rd1o, fnv, intv, VOp.dst, getRo, solEo, solo, solo1, allsz, List.all_cons, List.all_nil, Bool.and_true, beq_self_eq_true, List.length_cons, List.length_nil, Nat.zero_add, srcv, Nat.le_refl, List.take_succ_cons, List.take_zero, and_self, if_true, Nat.reduceAdd, Nat.reduceLT, eq_self, fldAv, ↓ldv_f, ↓ldv_n, ↓stv_f, ↓stv_a, fldv, setf, bldv, small, Bool.true_and, List.getElem?_cons_zero, List.getElem?_cons_succ, List.set_cons_zero, List.set_cons_succ, Bool.false_eq_true, if_false, true_and, and_true, reduceCtorEq, false_implies, implies_true, forall_const, hl, ↓rd_strs, ↓r_any]
      refine call_rule e2 ?_
      rintro lo2 hi2 r - - rfl
      by_cases hm : m = m'
      · simp -dsimp only [↓SD, SP, ↓reduceIte, Nat.reduceEqDiff, ini, frz, rdAo, rd3o, rd2o, rdpo, rd1o, fnv, intv, VOp.dst, getRo, solEo, solo, solo1, allsz, List.all_cons, List.all_nil, Bool.and_true, beq_self_eq_true, List.length_cons, List.length_nil, Nat.zero_add, srcv, Nat.le_refl, List.take_succ_cons, List.take_zero, and_self, if_true, Nat.reduceAdd, Nat.reduceLT, eq_self, fldAv, ↓ldv_f, ↓ldv_n, ↓stv_f, ↓stv_a, fldv, setf, bldv, small, Bool.true_and, List.getElem?_cons_zero, List.getElem?_cons_succ, List.set_cons_zero, List.set_cons_succ, Bool.false_eq_true, if_false, true_and, and_true, reduceCtorEq, false_implies, implies_true, forall_const, hm, ↓r_any]
        simp [ha, hl, hm]
      · simp -dsimp only [↓SD, SP, ↓reduceIte, Nat.reduceEqDiff, ini, frz, rdAo, rd3o, rd2o, rdpo, rd1o, fnv, intv, VOp.dst, getRo, solEo, solo, solo1, allsz, List.all_cons, List.all_nil, Bool.and_true, beq_self_eq_true, List.length_cons, List.length_nil, Nat.zero_add, srcv, Nat.le_refl, List.take_succ_cons, List.take_zero, and_self, if_true, Nat.reduceAdd, Nat.reduceLT, eq_self, fldAv, ↓ldv_f, ↓ldv_n, ↓stv_f, ↓stv_a, fldv, setf, bldv, small, Bool.true_and, List.getElem?_cons_zero, List.getElem?_cons_succ, List.set_cons_zero, List.set_cons_succ, Bool.false_eq_true, if_false, true_and, and_true, reduceCtorEq, false_implies, implies_true, forall_const, hm, ↓r_any]
        simp [hm]
    · simp -dsimp only [↓SD, SP, ↓reduceIte, Nat.reduceEqDiff, ini, frz, rdAo, rd3o, rd2o, rdpo, rd1o, fnv, intv, VOp.dst, getRo, solEo, solo, solo1, allsz, List.all_cons, List.all_nil, Bool.and_true, beq_self_eq_true, List.length_cons, List.length_nil, Nat.zero_add, srcv, Nat.le_refl, List.take_succ_cons, List.take_zero, and_self, if_true, Nat.reduceAdd, Nat.reduceLT, eq_self, fldAv, ↓ldv_f, ↓ldv_n, ↓stv_f, ↓stv_a, fldv, setf, bldv, small, Bool.true_and, List.getElem?_cons_zero, List.getElem?_cons_succ, List.set_cons_zero, List.set_cons_succ, Bool.false_eq_true, if_false, true_and, and_true, reduceCtorEq, false_implies, implies_true, forall_const, hl, ↓r_any]
      simp [hl]
  · simp -dsimp only [↓SD, SP, ↓reduceIte, Nat.reduceEqDiff, ini, frz, rdAo, rd3o, rd2o, rdpo, rd1o, fnv, intv, VOp.dst, getRo, solEo, solo, solo1, allsz, List.all_cons, List.all_nil, Bool.and_true, beq_self_eq_true, List.length_cons, List.length_nil, Nat.zero_add, srcv, Nat.le_refl, List.take_succ_cons, List.take_zero, and_self, if_true, Nat.reduceAdd, Nat.reduceLT, eq_self, fldAv, ↓ldv_f, ↓ldv_n, ↓stv_f, ↓stv_a, fldv, setf, bldv, small, Bool.true_and, List.getElem?_cons_zero, List.getElem?_cons_succ, List.set_cons_zero, List.set_cons_succ, Bool.false_eq_true, if_false, true_and, and_true, reduceCtorEq, false_implies, implies_true, forall_const, ha]
    simp [ha]
theorem s_eqHunkS (xs ys : List HunkL) (hx : xs.length ≤ 10000000) (h : ∀ x ∈ xs, x.less.length ≤ 10000000 ∧ x.more.length ≤ 10000000) : OK Go.Proofs.Try.prog 11 [hunksV xs, hunksV ys] (fun _ _ r => r = .bool (decide (xs = ys))) :=
  g_eq (f := 11) (s := 3) (fE := 27) k11 el_hunk xs ys hx fun x hx y hy => s_eqHunk x y (h x hx).1 (h x hx).2
theorem s_intactHunk (x : HunkL) (h : okH x) : OK Go.Proofs.Try.prog 29 [hunkF x, hunkF x] (fun _ _ r => r = .bool true) := by
  refine fn_ok k29 rfl ?_
  have e1 := s19' x.less h.1
  have e2 := s19' x.more h.2
  generalize OK Go.Proofs.Try.prog = L at *
  intro lo
  have r1 := fun H => rd3_of1 (r := strsF x.less) (fl := true) (H := H) rfl (by simp [strsF])
  have r2 := fun H => rd3_of1 (r := strsF x.more) (fl := true) (H := H) rfl (by simp [strsF])
  have z1 : (strsF x.less).isAgg = false ∧ (strsF x.less).sz = 1 := ⟨rfl, rfl⟩
  have z2 : (strsF x.more).isAgg = false ∧ (strsF x.more).sz = 1 := ⟨rfl, rfl⟩
  simp -dsimp only [↓SD, SP, ↓reduceIte, Nat.reduceEqDiff, ini, frz, rdAo, rd3o, rd2o, rdpo, rd1o, fnv, intv, VOp.dst, getRo, solEo, solo, solo1, allsz, List.all_cons, List.all_nil, Bool.and_true, beq_self_eq_true, List.length_cons, List.length_nil, Nat.zero_add, srcv, Nat.le_refl, List.take_succ_cons, List.take_zero, and_self, if_true, Nat.reduceAdd, Nat.reduceLT, eq_self, c29, hunkF]
  refine bal_mk fun b hb => ?_
  simp -dsimp only [↓SD, SP, ↓reduceIte, Nat.reduceEqDiff, ini, frz, rdAo, rd3o, rd2o, rdpo, rd1o, fnv, intv, VOp.dst, getRo, solEo, solo, solo1, allsz, List.all_cons, List.all_nil, Bool.and_true, beq_self_eq_true, List.length_cons, List.length_nil, Nat.zero_add, srcv, Nat.le_refl, List.take_succ_cons, List.take_zero, and_self, if_true, Nat.reduceAdd, Nat.reduceLT, eq_self]
  refine bal_mk fun b1 hb1 => ?_
  simp -dsimp only [↓SD, SP, ↓reduceIte, Nat.reduceEqDiff, ini, frz, rdAo, rd3o, rd2o, rdpo, rd1o, fnv, intv, VOp.dst, getRo, solEo, solo, solo1, allsz, List.all_cons, List.all_nil, Bool.and_true, beq_self_eq_true, List.length_cons, List.length_nil, Nat.zero_add, srcv, Nat.le_refl, List.take_succ_cons, List.take_zero, and_self, if_true, Nat.reduceAdd, Nat.reduceLT, eq_self, fldAv, ↓ldv_f, ↓ldv_n, ↓stv_f, ↓stv_a, fldv, setf, bldv, small, Bool.true_and, List.getElem?_cons_zero, List.getElem?_cons_succ, List.set_cons_zero, List.set_cons_succ, Bool.false_eq_true, if_false, true_and, and_true, reduceCtorEq, false_implies, implies_true, forall_const, ↓r1, ↓r2, z1, z2, ↓r_any]
  refine call_rule e1 ?_
  rintro lo1 hi1 r - - rfl
  simp -dsimp only [↓SD, SP, ↓reduceIte, Nat.reduceEqDiff, ini, frz, rdAo, rd3o, rd2o, rdpo, rd1o, fnv, intv, VOp.dst, getRo, solEo, solo, solo1, allsz, List.all_cons, List.all_nil, Bool.and_true, beq_self_eq_true, List.length_cons, List.length_nil, Nat.zero_add, srcv, Nat.le_refl, List.take_succ_cons, List.take_zero, and_self, if_true, Nat.reduceAdd, Nat.reduceLT, eq_self, fldAv, ↓ldv_f, ↓ldv_n, ↓stv_f, ↓stv_a, fldv, setf, bldv, small, Bool.true_and, List.getElem?_cons_zero, List.getElem?_cons_succ, List.set_cons_zero, List.set_cons_succ, Bool.false_eq_true, if_false, true_and, and_true, reduceCtorEq, false_implies, implies_true, forall_const, ↓r1, ↓r2, z1, z2, ↓r_any]
  refine call_rule e2 ?_
  rintro lo2 hi2 r - - rfl
  simp -dsimp only [↓SD, SP, ↓reduceIte, Nat.reduceEqDiff, ini, frz, rdAo, rd3o, rd2o, rdpo, rd1o, fnv, intv, VOp.dst, getRo, solEo, solo, solo1, allsz, List.all_cons, List.all_nil, Bool.and_true, beq_self_eq_true, List.length_cons, List.length_nil, Nat.zero_add, srcv, Nat.le_refl, List.take_succ_cons, List.take_zero, and_self, if_true, Nat.reduceAdd, Nat.reduceLT, eq_self, ↓r_any]
theorem s_intactHunkS (xs : List HunkL) (ho : okHs xs) : OK Go.Proofs.Try.prog 13 [fullL hunkF hunkV fillL xs, fullL hunkF hunkV fillL xs] (fun _ _ r => r = .bool true) :=
  g_in (f := 13) (s := 3) (fI := 29) (fE := 11) (fR := 22) k13 (by decide) el_hunk (fun x => ⟨_, rfl, rfl⟩) rd_hunkF xs ho.1 (fun k hk => s54 k hk) (fun x hx => s_intactHunk x (ho.2 x hx))
    (fun n hn => (s_eqHunkS _ _ (by simpa using hn) (fun x hx => by rw [List.eq_of_mem_replicate hx]; exact ⟨by decide, by decide⟩)).weak fun _ _ r hr => by simpa using hr)
end Go.AVM
