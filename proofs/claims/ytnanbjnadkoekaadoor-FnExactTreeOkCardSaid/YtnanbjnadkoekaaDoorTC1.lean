/- Files: what the law's helpers give. -/
import Derived.Test.YtnanbjnadkoekaaDoorFE3
set_option linter.unusedSimpArgs false
set_option linter.unusedVariables false
namespace Go.AVM
structure FileL where
  path : ByteArray
  text : List ByteArray
  deriving DecidableEq
def fileV (h : FileL) : AV := .agg [.str h.path, strs h.text]
abbrev filesV (hs : List FileL) : AV := lv fileV hs
def fileF (h : FileL) : AV := .agg [.str h.path, strsF h.text]
def fillFl : FileL := ⟨spare, [spare]⟩
def wfF (h : FileL) : Prop := h.path.size ≤ 9223372036854775807 ∧ wfS h.text
def okF (h : FileL) : Prop := h.path.size ≤ 1000000 ∧ okL h.text
def wfFs (hs : List FileL) : Prop := hs.length ≤ 9223372036854775807 ∧ ∀ h ∈ hs, wfF h
def okFs (hs : List FileL) : Prop := hs.length ≤ 1000000 ∧ ∀ h ∈ hs, okF h
theorem pl_file {fl : Bool} (h : FileL) : Pl fl (fileV h) := .agg _ fun g hg => by
  simp at hg
  rcases hg with rfl | rfl
  · exact .str _
  · exact pf_strs _
theorem pl_fileF (h : FileL) : Pl true (fileF h) := .agg _ fun g hg => by
  simp at hg
  rcases hg with rfl | rfl
  · exact .str _
  · exact pf_strsF _
theorem wk_l2 {a b a' b' : AV} (h1 : Wk a a') (h2 : Wk b b') : Wk (.agg [a, b]) (.agg [a', b']) := by
  refine .agg _ _ rfl fun i x y hx hy => ?_
  rcases i with _ | _ | i
  · simp at hx hy; subst hx hy; exact h1
  · simp at hx hy; subst hx hy; exact h2
  · simp at hx
theorem s_szFile (h : FileL) (k : Nat) (hk : k ≤ 1000000) (hw : wfF h) : OK Go.Proofs.Tryd.prog 34 [fileV h, .int .i64 k] (fun _ _ r => ∃ i : Int, r = .int .i64 i ∧ (0 ≤ i → okF h ∧ ∃ k' : Nat, i = k' ∧ k' ≤ k)) := by
  refine fn_ok k34 rfl ?_
  have h1 := fun k hk => s15' h.text k hk hw.2
  have hp := hw.1
  generalize OK Go.Proofs.Tryd.prog = L at *
  intro lo
  simp -dsimp only [↓SD, SP, ↓reduceIte, Nat.reduceEqDiff, ini, frz, rdAo, rd3o, rd2o, rdpo, rd1o, fnv, intv, VOp.dst, getRo, solEo, solo, solo1, allsz, List.all_cons, List.all_nil, Bool.and_true, beq_self_eq_true, List.length_cons, List.length_nil, Nat.zero_add, srcv, Nat.le_refl, List.take_succ_cons, List.take_zero, and_self, if_true, Nat.reduceAdd, Nat.reduceLT, eq_self, c34, fileV]
  refine bal_mk fun b hb => ?_
  by_cases hneg0 : (k : Int) - h.path.size < 0
  · simp -dsimp only [↓SD, SP, ↓reduceIte, Nat.reduceEqDiff, ini, frz, rdAo, rd3o, rd2o, rdpo, rd1o, fnv, intv, VOp.dst, getRo, solEo, solo, solo1, allsz, List.all_cons, List.all_nil, Bool.and_true, beq_self_eq_true, List.length_cons, List.length_nil, Nat.zero_add, srcv, Nat.le_refl, List.take_succ_cons, List.take_zero, and_self, if_true, Nat.reduceAdd, Nat.reduceLT, eq_self, fldAv, ↓ldv_f, ↓ldv_n, ↓stv_f, ↓stv_a, fldv, setf, bldv, small, Bool.true_and, List.getElem?_cons_zero, List.getElem?_cons_succ, List.set_cons_zero, List.set_cons_succ, Bool.false_eq_true, if_false, true_and, and_true, reduceCtorEq, false_implies, implies_true, forall_const, wrap64 ((k : Int) - h.path.size) (by omega), hneg0, ↓r_any]
    exact ⟨_, rfl, by omega⟩
  simp -dsimp only [↓SD, SP, ↓reduceIte, Nat.reduceEqDiff, ini, frz, rdAo, rd3o, rd2o, rdpo, rd1o, fnv, intv, VOp.dst, getRo, solEo, solo, solo1, allsz, List.all_cons, List.all_nil, Bool.and_true, beq_self_eq_true, List.length_cons, List.length_nil, Nat.zero_add, srcv, Nat.le_refl, List.take_succ_cons, List.take_zero, and_self, if_true, Nat.reduceAdd, Nat.reduceLT, eq_self, fldAv, ↓ldv_f, ↓ldv_n, ↓stv_f, ↓stv_a, fldv, setf, bldv, small, Bool.true_and, List.getElem?_cons_zero, List.getElem?_cons_succ, List.set_cons_zero, List.set_cons_succ, Bool.false_eq_true, if_false, true_and, and_true, reduceCtorEq, false_implies, implies_true, forall_const, show (k : Int) - h.path.size = ((k - h.path.size : Nat) : Int) by omega, wrap64 ((k - h.path.size : Nat) : Int) (by omega), show ¬ ((k - h.path.size : Nat) : Int) < 0 by omega, ↓rd_strs, ↓r_any]
  refine call_rule (h1 (k - h.path.size) (by omega)) ?_
  rintro lo1 hi1 r g1 g2 ⟨i, rfl, hi⟩
  by_cases hneg : i < 0
  · simp -dsimp only [↓SD, SP, ↓reduceIte, Nat.reduceEqDiff, ini, frz, rdAo, rd3o, rd2o, rdpo, rd1o, fnv, intv, VOp.dst, getRo, solEo, solo, solo1, allsz, List.all_cons, List.all_nil, Bool.and_true, beq_self_eq_true, List.length_cons, List.length_nil, Nat.zero_add, srcv, Nat.le_refl, List.take_succ_cons, List.take_zero, and_self, if_true, Nat.reduceAdd, Nat.reduceLT, eq_self, hneg, ↓r_any]
    exact ⟨_, rfl, by omega⟩
  obtain ⟨ho, k1, rfl, hk1⟩ := hi (by omega)
  simp -dsimp only [↓SD, SP, ↓reduceIte, Nat.reduceEqDiff, ini, frz, rdAo, rd3o, rd2o, rdpo, rd1o, fnv, intv, VOp.dst, getRo, solEo, solo, solo1, allsz, List.all_cons, List.all_nil, Bool.and_true, beq_self_eq_true, List.length_cons, List.length_nil, Nat.zero_add, srcv, Nat.le_refl, List.take_succ_cons, List.take_zero, and_self, if_true, Nat.reduceAdd, Nat.reduceLT, eq_self, hneg, ↓r_any]
  exact ⟨_, rfl, fun _ => ⟨⟨by omega, ho⟩, k1, rfl, by omega⟩⟩
theorem rd_file (H : Hp) (h : FileL) : rd3o false H (fileV h) = some (fileV h, []) := by
  have h1 : (h.text.map AV.str).take h.text.length = h.text.map .str := List.take_of_length_le (by simp)
  simp [fileV, strs, rd3o, rd2o, rdpo, rdso, rd1o, h1]
theorem rd_fileF (H : Hp) (h : FileL) : rd3o true H (fileF h) = some (fileF h, []) := by
  simp [fileF, strsF, rd3o, rd2o, rdpo, rdso, rd1o]
theorem el_file : El 2 fileV := ⟨fun x => ⟨_, rfl, rfl⟩, rd_file⟩
theorem s_szFileS (xs : List FileL) (k : Nat) (hk : k ≤ 1000000) (hw : wfFs xs) : OK Go.Proofs.Tryd.prog 17 [filesV xs, .int .i64 k] (fun _ _ r => ∃ i : Int, r = .int .i64 i ∧ (0 ≤ i → okFs xs ∧ ∃ k' : Nat, i = k' ∧ k' ≤ k)) :=
  g_sz (f := 17) (s := 2) (fT := 34) k17 el_file okF xs k hk hw.1 fun x hx k hk => s_szFile x k hk (hw.2 x hx)
def IsFile (lo hi : Nat) (h : FileL) (bare : Bool) (r : AV) : Prop := ∃ l2, r = .agg [.str h.path, l2] ∧ IsStr lo hi h.text l2 ∧ (bare = false → Wk l2 (strsF h.text))
theorem s_toFile (h : FileL) (bare : Bool) (ho : okF h) : OK Go.Proofs.Tryd.prog 36 [fileV h, .bool bare] (fun lo hi r => IsFile lo hi h bare r) := by
  refine fn_ok k36 rfl ?_
  have h1 := s_toStringS h.text bare ho.2
  generalize OK Go.Proofs.Tryd.prog = L at *
  intro lo
  simp -dsimp only [↓SD, SP, ↓reduceIte, Nat.reduceEqDiff, ini, frz, rdAo, rd3o, rd2o, rdpo, rd1o, fnv, intv, VOp.dst, getRo, solEo, solo, solo1, allsz, List.all_cons, List.all_nil, Bool.and_true, beq_self_eq_true, List.length_cons, List.length_nil, Nat.zero_add, srcv, Nat.le_refl, List.take_succ_cons, List.take_zero, and_self, if_true, Nat.reduceAdd, Nat.reduceLT, eq_self, c36, fileV]
  refine bal_mk fun b hb => ?_
  simp -dsimp only [↓SD, SP, ↓reduceIte, Nat.reduceEqDiff, ini, frz, rdAo, rd3o, rd2o, rdpo, rd1o, fnv, intv, VOp.dst, getRo, solEo, solo, solo1, allsz, List.all_cons, List.all_nil, Bool.and_true, beq_self_eq_true, List.length_cons, List.length_nil, Nat.zero_add, srcv, Nat.le_refl, List.take_succ_cons, List.take_zero, and_self, if_true, Nat.reduceAdd, Nat.reduceLT, eq_self]
  refine bal_mk fun b1 hb1 => ?_
  simp -dsimp only [↓SD, SP, ↓reduceIte, Nat.reduceEqDiff, ini, frz, rdAo, rd3o, rd2o, rdpo, rd1o, fnv, intv, VOp.dst, getRo, solEo, solo, solo1, allsz, List.all_cons, List.all_nil, Bool.and_true, beq_self_eq_true, List.length_cons, List.length_nil, Nat.zero_add, srcv, Nat.le_refl, List.take_succ_cons, List.take_zero, and_self, if_true, Nat.reduceAdd, Nat.reduceLT, eq_self]
  refine bal_mk fun b2 hb2 => ?_
  simp -dsimp only [↓SD, SP, ↓reduceIte, Nat.reduceEqDiff, ini, frz, rdAo, rd3o, rd2o, rdpo, rd1o, fnv, intv, VOp.dst, getRo, solEo, solo, solo1, allsz, List.all_cons, List.all_nil, Bool.and_true, beq_self_eq_true, List.length_cons, List.length_nil, Nat.zero_add, srcv, Nat.le_refl, List.take_succ_cons, List.take_zero, and_self, if_true, Nat.reduceAdd, Nat.reduceLT, eq_self, fldAv, ↓ldv_f, ↓ldv_n, ↓stv_f, ↓stv_a, fldv, setf, bldv, small, Bool.true_and, List.getElem?_cons_zero, List.getElem?_cons_succ, List.set_cons_zero, List.set_cons_succ, Bool.false_eq_true, if_false, true_and, and_true, reduceCtorEq, false_implies, implies_true, forall_const, ↓rd_strs, ↓r_any]
  refine call_rule h1 ?_
  rintro lo1 hi1 l1 g1 g2 ⟨q1, q1'⟩
  obtain ⟨a1, a1'⟩ := q1.fld
  have e1 := fun H => sol1_wk (fl := false) (pf_strs h.text) q1.wk H
  simp -dsimp only [↓SD, SP, ↓reduceIte, Nat.reduceEqDiff, ini, frz, rdAo, rd3o, rd2o, rdpo, rd1o, fnv, intv, VOp.dst, getRo, solEo, solo, solo1, allsz, List.all_cons, List.all_nil, Bool.and_true, beq_self_eq_true, List.length_cons, List.length_nil, Nat.zero_add, srcv, Nat.le_refl, List.take_succ_cons, List.take_zero, and_self, if_true, Nat.reduceAdd, Nat.reduceLT, eq_self, fldAv, ↓ldv_f, ↓ldv_n, ↓stv_f, ↓stv_a, fldv, setf, bldv, small, Bool.true_and, List.getElem?_cons_zero, List.getElem?_cons_succ, List.set_cons_zero, List.set_cons_succ, Bool.false_eq_true, if_false, true_and, and_true, reduceCtorEq, false_implies, implies_true, forall_const, ↓r_any, a1, a1', ↓e1, solso]
  refine ⟨l1, rfl, q1.mono (by omega) (Nat.le_refl _), fun hb => ?_⟩
  obtain ⟨b1, _, _, rfl⟩ := q1' hb
  exact Wk.strip _ _ _ (by simp [roomy])
theorem IsFile.wk {lo hi : Nat} {h : FileL} {bare : Bool} {r : AV} (hr : IsFile lo hi h bare r) : Wk r (fileV h) := by
  obtain ⟨l1, rfl, q1, _⟩ := hr
  exact wk_l2 (.refl _) q1.wk
theorem IsFile.wkF {lo hi : Nat} {h : FileL} {r : AV} (hr : IsFile lo hi h false r) : Wk r (fileF h) := by
  obtain ⟨l1, rfl, q1, q3⟩ := hr
  exact wk_l2 (.refl _) (q3 rfl)
theorem IsFile.tin {lo hi : Nat} {h : FileL} {bare : Bool} {r : AV} (hr : IsFile lo hi h bare r) : Tin lo hi (tags r) := by
  obtain ⟨l1, rfl, q1, _⟩ := hr
  simp only [tags, tagsL, List.nil_append, List.append_nil]
  exact q1.tin
theorem IsFile.agg {lo hi : Nat} {h : FileL} {bare : Bool} {r : AV} (hr : IsFile lo hi h bare r) : ∃ fs, r = .agg fs ∧ fs.length = 2 := by
  obtain ⟨l1, rfl, _⟩ := hr
  exact ⟨_, rfl, rfl⟩
def FlF (r : AV) : Prop := ∃ b1 : Nat, r = .agg [.str spare, .lsl (some (b1, 1)) 1 ([spare].map .str)]
theorem FlF.wk {r : AV} (h : FlF r) : Wk r (fileV fillFl) := by
  obtain ⟨b1, rfl⟩ := h
  exact wk_l2 (.refl _) (Wk.strip _ _ _ (by simp))
theorem s_fillerFile : OK Go.Proofs.Tryd.prog 54 [] (fun lo hi r => FlF r ∧ Tin lo hi (tags r)) := by
  refine fn_ok k54 rfl ?_
  generalize OK Go.Proofs.Tryd.prog = L at *
  intro lo
  simp -dsimp only [↓SD, SP, ↓reduceIte, Nat.reduceEqDiff, ini, frz, rdAo, rd3o, rd2o, rdpo, rd1o, fnv, intv, VOp.dst, getRo, solEo, solo, solo1, allsz, List.all_cons, List.all_nil, Bool.and_true, beq_self_eq_true, List.length_cons, List.length_nil, Nat.zero_add, srcv, Nat.le_refl, List.take_succ_cons, List.take_zero, and_self, if_true, Nat.reduceAdd, Nat.reduceLT, eq_self, c54]
  refine bal_mk fun b hb => ?_
  simp -dsimp only [↓SD, SP, ↓reduceIte, Nat.reduceEqDiff, ini, frz, rdAo, rd3o, rd2o, rdpo, rd1o, fnv, intv, VOp.dst, getRo, solEo, solo, solo1, allsz, List.all_cons, List.all_nil, Bool.and_true, beq_self_eq_true, List.length_cons, List.length_nil, Nat.zero_add, srcv, Nat.le_refl, List.take_succ_cons, List.take_zero, and_self, if_true, Nat.reduceAdd, Nat.reduceLT, eq_self]
  refine bal_mk fun b1 hb1 => ?_
  simp -dsimp only [↓SD, SP, ↓reduceIte, Nat.reduceEqDiff, ini, frz, rdAo, rd3o, rd2o, rdpo, rd1o, fnv, intv, VOp.dst, getRo, solEo, solo, solo1, allsz, List.all_cons, List.all_nil, Bool.and_true, beq_self_eq_true, List.length_cons, List.length_nil, Nat.zero_add, srcv, Nat.le_refl, List.take_succ_cons, List.take_zero, and_self, if_true, Nat.reduceAdd, Nat.reduceLT, eq_self, fldAv, ↓ldv_f, ↓ldv_n, ↓stv_f, ↓stv_a, fldv, setf, bldv, small, Bool.true_and, List.getElem?_cons_zero, List.getElem?_cons_succ, List.set_cons_zero, List.set_cons_succ, Bool.false_eq_true, if_false, true_and, and_true, reduceCtorEq, false_implies, implies_true, forall_const, solso]
  refine ⟨⟨b1, rfl⟩, ?_⟩
  · simp only [tags, tagsL, List.nil_append, List.append_nil, List.cons_append]
    exact (Tin.nil.cons (by simp) (by omega) (by omega) : Tin lo (b1 + 1) [b1])
theorem s_toFileS (xs : List FileL) (bare : Bool) (ho : okFs xs) : OK Go.Proofs.Tryd.prog 19 [filesV xs, .bool bare] (fun lo hi r => IsL 2 (fun lo hi x r => IsFile lo hi x bare r) FlF lo hi xs bare r) :=
  g_to (f := 19) (s := 2) (bytes := 40) (fT := 36) (fF := 54) (fR := 53) (z := .agg [.str ⟨#[]⟩, .emp]) k19 (by decide) (by decide) el_file _ _
    (fun lo hi x r hr => ⟨hr.agg, hr.tin, fun H => sol_wk hr.wk (pl_file (fl := false) x) H⟩) (fun r hr => ⟨by obtain ⟨b1, rfl⟩ := hr; exact ⟨_, rfl, rfl⟩, fun H => sol_wk hr.wk (pl_file (fl := false) fillFl) H⟩) xs bare ho.1 (fun k hk => s54 k hk) (fun x hx => s_toFile x bare (ho.2 x hx))
    s_fillerFile
theorem s_eqFile (x y : FileL) (h1 : x.text.length ≤ 10000000) : OK Go.Proofs.Tryd.prog 65 [fileV x, fileV y] (fun _ _ r => r = .bool (decide (x = y))) := by
  refine fn_ok k65 rfl ?_
  have e1 := s49 x.text y.text h1
  generalize OK Go.Proofs.Tryd.prog = L at *
  intro lo
  obtain ⟨a, l⟩ := x
  obtain ⟨a', l'⟩ := y
  simp -dsimp only [↓SD, SP, ↓reduceIte, Nat.reduceEqDiff, ini, frz, rdAo, rd3o, rd2o, rdpo, rd1o, fnv, intv, VOp.dst, getRo, solEo, solo, solo1, allsz, List.all_cons, List.all_nil, Bool.and_true, beq_self_eq_true, List.length_cons, List.length_nil, Nat.zero_add, srcv, Nat.le_refl, List.take_succ_cons, List.take_zero, and_self, if_true, Nat.reduceAdd, Nat.reduceLT, eq_self, c65, fileV]
  refine bal_mk fun b hb => ?_
  simp -dsimp only [↓SD, SP, ↓reduceIte, Nat.reduceEqDiff, ini, frz, rdAo, rd3o, rd2o, rdpo, rd1o, fnv, intv, VOp.dst, getRo, solEo, solo, solo1, allsz, List.all_cons, List.all_nil, Bool.and_true, beq_self_eq_true, List.length_cons, List.length_nil, Nat.zero_add, srcv, Nat.le_refl, List.take_succ_cons, List.take_zero, and_self, if_true, Nat.reduceAdd, Nat.reduceLT, eq_self]
  refine bal_mk fun b1 hb1 => ?_
  by_cases ha : a = a'
  · simp -dsimp only [↓SD, SP, ↓reduceIte, Nat.reduceEqDiff, ini, frz, rdAo, rd3o, rd2o, rdpo, rd1o, fnv, intv, VOp.dst, getRo, solEo, solo, solo1, allsz, List.all_cons, List.all_nil, Bool.and_true, beq_self_eq_true, List.length_cons, List.length_nil, Nat.zero_add, srcv, Nat.le_refl, List.take_succ_cons, List.take_zero, and_self, if_true, Nat.reduceAdd, Nat.reduceLT, eq_self, fldAv, ↓ldv_f, ↓ldv_n, ↓stv_f, ↓stv_a, fldv, setf, bldv, small, Bool.true_and, List.getElem?_cons_zero, List.getElem?_cons_succ, List.set_cons_zero, List.set_cons_succ, Bool.false_eq_true, if_false, true_and, and_true, reduceCtorEq, false_implies, implies_true, forall_const, ha, ↓rd_strs, ↓r_any]
    refine call_rule e1 ?_
    rintro lo1 hi1 r - - rfl
    by_cases hl : l = l'
    · simp -dsimp only [↓SD, SP, ↓reduceIte, Nat.reduceEqDiff, ini, frz, rdAo, rd3o, rd2o, rdpo, rd1o, fnv, intv, VOp.dst, getRo, solEo, solo, solo1, allsz, List.all_cons, List.all_nil, Bool.and_true, beq_self_eq_true, List.length_cons, List.length_nil, Nat.zero_add, srcv, Nat.le_refl, List.take_succ_cons, List.take_zero, and_self, if_true, Nat.reduceAdd, Nat.reduceLT, eq_self, fldAv, ↓ldv_f, ↓ldv_n, ↓stv_f, ↓stv_a, fldv, setf, bldv, small, Bool.true_and, List.getElem?_cons_zero, List.getElem?_cons_succ, List.set_cons_zero, List.set_cons_succ, Bool.false_eq_true, if_false, true_and, and_true, reduceCtorEq, false_implies, implies_true, forall_const, hl, ↓r_any]
      simp [ha, hl]
    · simp -dsimp only [↓SD, SP, ↓reduceIte, Nat.reduceEqDiff, ini, frz, rdAo, rd3o, rd2o, rdpo, rd1o, fnv, intv, VOp.dst, getRo, solEo, solo, solo1, allsz, List.all_cons, List.all_nil, Bool.and_true, beq_self_eq_true, List.length_cons, List.length_nil, Nat.zero_add, srcv, Nat.le_refl, List.take_succ_cons, List.take_zero, and_self, if_true, Nat.reduceAdd, Nat.reduceLT, eq_self, fldAv, ↓ldv_f, ↓ldv_n, ↓stv_f, ↓stv_a, fldv, setf, bldv, small, Bool.true_and, List.getElem?_cons_zero, List.getElem?_cons_succ, List.set_cons_zero, List.set_cons_succ, Bool.false_eq_true, if_false, true_and, and_true, reduceCtorEq, false_implies, implies_true, forall_const, hl, ↓r_any]
      simp [hl]
  · simp -dsimp only [↓SD, SP, ↓reduceIte, Nat.reduceEqDiff, ini, frz, rdAo, rd3o, rd2o, rdpo, rd1o, fnv, intv, VOp.dst, getRo, solEo, solo, solo1, allsz, List.all_cons, List.all_nil, Bool.and_true, beq_self_eq_true, List.length_cons, List.length_nil, Nat.zero_add, srcv, Nat.le_refl, List.take_succ_cons, List.take_zero, and_self, if_true, Nat.reduceAdd, Nat.reduceLT, eq_self, fldAv, ↓ldv_f, ↓ldv_n, ↓stv_f, ↓stv_a, fldv, setf, bldv, small, Bool.true_and, List.getElem?_cons_zero, List.getElem?_cons_succ, List.set_cons_zero, List.set_cons_succ, Bool.false_eq_true, if_false, true_and, and_true, reduceCtorEq, false_implies, implies_true, forall_const, ha]
    simp [ha]
theorem s_eqFileS (xs ys : List FileL) (hx : xs.length ≤ 10000000) (h : ∀ x ∈ xs, x.text.length ≤ 10000000) : OK Go.Proofs.Tryd.prog 30 [filesV xs, filesV ys] (fun _ _ r => r = .bool (decide (xs = ys))) :=
  g_eq (f := 30) (s := 2) (fE := 65) k30 el_file xs ys hx fun x hx y hy => s_eqFile x y (h x hx)
theorem s_intactFile (x : FileL) (h : okF x) : OK Go.Proofs.Tryd.prog 38 [fileF x, fileF x] (fun _ _ r => r = .bool true) := by
  refine fn_ok k38 rfl ?_
  have e1 := s19' x.text h.2
  generalize OK Go.Proofs.Tryd.prog = L at *
  intro lo
  have r1 := fun H => rd3_of1 (r := strsF x.text) (fl := true) (H := H) rfl (by simp [strsF])
  have z1 : (strsF x.text).isAgg = false ∧ (strsF x.text).sz = 1 := ⟨rfl, rfl⟩
  simp -dsimp only [↓SD, SP, ↓reduceIte, Nat.reduceEqDiff, ini, frz, rdAo, rd3o, rd2o, rdpo, rd1o, fnv, intv, VOp.dst, getRo, solEo, solo, solo1, allsz, List.all_cons, List.all_nil, Bool.and_true, beq_self_eq_true, List.length_cons, List.length_nil, Nat.zero_add, srcv, Nat.le_refl, List.take_succ_cons, List.take_zero, and_self, if_true, Nat.reduceAdd, Nat.reduceLT, eq_self, c38, fileF]
  refine bal_mk fun b hb => ?_
  simp -dsimp only [↓SD, SP, ↓reduceIte, Nat.reduceEqDiff, ini, frz, rdAo, rd3o, rd2o, rdpo, rd1o, fnv, intv, VOp.dst, getRo, solEo, solo, solo1, allsz, List.all_cons, List.all_nil, Bool.and_true, beq_self_eq_true, List.length_cons, List.length_nil, Nat.zero_add, srcv, Nat.le_refl, List.take_succ_cons, List.take_zero, and_self, if_true, Nat.reduceAdd, Nat.reduceLT, eq_self]
  refine bal_mk fun b1 hb1 => ?_
  simp -dsimp only [↓SD, SP, ↓reduceIte, Nat.reduceEqDiff, ini, frz, rdAo, rd3o, rd2o, rdpo, rd1o, fnv, intv, VOp.dst, getRo, solEo, solo, solo1, allsz, List.all_cons, List.all_nil, Bool.and_true, beq_self_eq_true, List.length_cons, List.length_nil, Nat.zero_add, srcv, Nat.le_refl, List.take_succ_cons, List.take_zero, and_self, if_true, Nat.reduceAdd, Nat.reduceLT, eq_self, fldAv, ↓ldv_f, ↓ldv_n, ↓stv_f, ↓stv_a, fldv, setf, bldv, small, Bool.true_and, List.getElem?_cons_zero, List.getElem?_cons_succ, List.set_cons_zero, List.set_cons_succ, Bool.false_eq_true, if_false, true_and, and_true, reduceCtorEq, false_implies, implies_true, forall_const, ↓r1, z1, ↓r_any]
  refine call_rule e1 ?_
  rintro lo1 hi1 r - - rfl
  simp -dsimp only [↓SD, SP, ↓reduceIte, Nat.reduceEqDiff, ini, frz, rdAo, rd3o, rd2o, rdpo, rd1o, fnv, intv, VOp.dst, getRo, solEo, solo, solo1, allsz, List.all_cons, List.all_nil, Bool.and_true, beq_self_eq_true, List.length_cons, List.length_nil, Nat.zero_add, srcv, Nat.le_refl, List.take_succ_cons, List.take_zero, and_self, if_true, Nat.reduceAdd, Nat.reduceLT, eq_self, ↓r_any]
abbrev filesF (xs : List FileL) : AV := fullL fileF fileV fillFl xs
theorem s_intactFileS (xs : List FileL) (ho : okFs xs) : OK Go.Proofs.Tryd.prog 21 [filesF xs, filesF xs] (fun _ _ r => r = .bool true) :=
  g_in (f := 21) (s := 2) (fI := 38) (fE := 30) (fR := 53) k21 (by decide) el_file (fun x => ⟨_, rfl, rfl⟩) rd_fileF xs ho.1 (fun k hk => s54 k hk) (fun x hx => s_intactFile x (ho.2 x hx))
    (fun n hn => (s_eqFileS _ _ (by simpa using hn) (fun x hx => by rw [List.eq_of_mem_replicate hx]; decide)).weak fun _ _ r hr => by simpa using hr)
theorem files_sz (xs : List FileL) (k : Nat) (hk : k ≤ 1000000) (hw : wfFs xs) : OK Go.Proofs.Tryd.prog 17 [filesV xs, .int .i64 k] (fun _ _ r => SzR (okFs xs) k r) := s_szFileS xs k hk hw
theorem files_to (xs : List FileL) (b : Bool) (ho : okFs xs) : OK Go.Proofs.Tryd.prog 19 [filesV xs, .bool b] (fun lo hi r => ToR (filesV xs) (filesF xs) b lo hi r) :=
  (s_toFileS xs b ho).weak fun lo hi r q => ⟨q.wk fun _ _ _ _ h => h.wk, fun hb => by subst hb; exact q.wkF (e := fileV) (fx := fillFl) (fun _ h => h.wk) fun _ _ _ _ h => h.wkF, q.tin⟩
theorem files_in (xs : List FileL) (ho : okFs xs) : OK Go.Proofs.Tryd.prog 21 [filesF xs, filesF xs] (fun _ _ r => r = .bool true) := s_intactFileS xs ho
theorem files_pl (xs : List FileL) : Pl false (filesV xs) := .fld _ (pf_lv _ _)
theorem files_plF (xs : List FileL) : Pl true (filesF xs) := .fld _ (pf_full _ _ _ _)
end Go.AVM
