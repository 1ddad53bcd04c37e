/- Files: what the law's helpers give. -/
import Derived.Test.YtnanbjnadkoekaaDoorMH
import Derived.Test.YtnanbjnadkoekaaDoorMP
set_option linter.unusedSimpArgs false
set_option linter.unusedVariables false
namespace Go.AVM
structure FileL where
  path : ByteArray
  text : List ByteArray
  deriving DecidableEq
def fileV (h : FileL) : AV := .agg [.str h.path, strs h.text]
abbrev filesV (hs : List FileL) : AV := lv fileV hs
def fileF (h : FileL) : AV := .agg [.str h.path, strsF h.text]
def fillFl : FileL := ⟨spare, [spare]⟩
def wfF (h : FileL) : Prop := h.path.size ≤ 9223372036854775807 ∧ wfS h.text
def okF (h : FileL) : Prop := h.path.size ≤ 1000000 ∧ okL h.text
def wfFs (hs : List FileL) : Prop := hs.length ≤ 9223372036854775807 ∧ ∀ h ∈ hs, wfF h
def okFs (hs : List FileL) : Prop := hs.length ≤ 1000000 ∧ ∀ h ∈ hs, okF h
theorem pl_file {fl : Bool} (h : FileL) : Pl fl (fileV h) := .agg _ fun g hg => by
  simp at hg
  rcases hg with rfl | rfl
  · exact .str _
  · exact pf_strs _
theorem pl_fileF (h : FileL) : Pl true (fileF h) := .agg _ fun g hg => by
  simp at hg
  rcases hg with rfl | rfl
  · exact .str _
  · exact pf_strsF _
theorem wk_l2 {a b a' b' : AV} (h1 : Wk a a') (h2 : Wk b b') : Wk (.agg [a, b]) (.agg [a', b']) := by
  refine .agg _ _ rfl fun i x y hx hy => ?_
  rcases i with _ | _ | i
  · simp at hx hy; subst hx hy; exact h1
  · simp at hx hy; subst hx hy; exact h2
  · simp at hx
theorem s_szFile (h : FileL) (k : Nat) (hk : k ≤ 1000000) (hw : wfF h) : OK Go.Proofs.Tryd.prog 34 [fileV h, .int .i64 k] (fun _ _ r => ∃ i : Int, r = .int .i64 i ∧ (0 ≤ i → okF h ∧ ∃ k' : Nat, i = k' ∧ k' ≤ k)) := by
  refine fn_ok k34 rfl ?_
  have h1 := fun k hk => s15' h.text k hk hw.2
  have hp := hw.1
  generalize OK Go.Proofs.Tryd.prog = L at *
  intro lo
  simp -dsimp only [↓SD, SP, ↓reduceIte, Nat.reduceEqDiff, ini, frz, rdAo, rd3o, rd2o, rdpo, rd1o, fnv, intv, VOp.dst, getRo, solEo, solo, solo1, allsz, List.all_cons, List.all_nil, Bool.and_true, beq_self_eq_true, List.length_cons, List.length_nil, Nat.zero_add, srcv, Nat.le_refl, List.take_succ_cons, List.take_zero, and_self, if_true, Nat.reduceAdd, Nat.reduceLT, eq_self, c34, fileV]
  refine bal_mk fun b hb => ?_
  by_cases hneg0 : (k : Int) - h.path.size < 0
  · simp -dsimp only [↓SD, SP, ↓reduceIte, Nat.reduceEqDiff, ini, frz, rdAo, rd3o, rd2o, rdpo, rd1o, fnv, intv, VOp.dst, getRo, solEo, solo, solo1, allsz, List.all_cons, List.all_nil, Bool.and_true, beq_self_eq_true, List.length_cons, List.length_nil, Nat.zero_add, srcv, Nat.le_refl, List.take_succ_cons, List.take_zero, and_self, if_true, Nat.reduceAdd, Nat.reduceLT, eq_self, fldAv, ↓ldv_f, ↓ldv_n, ↓stv_f, ↓stv_a, fldv, setf, bldv, small, Bool.true_and, List.getElem?_cons_zero, List.getElem?_cons_succ, List.set_cons_zero, List.set_cons_succ, Bool.false_eq_true, if_false, true_and, and_true, reduceCtorEq, false_implies, implies_true, forall_const, wrap64 ((k : Int) - h.path.size) (by omega), hneg0, ↓r_any]
    exact ⟨_, rfl, by omega⟩
  simp -dsimp only [↓SD, SP, ↓reduceIte, Nat.reduceEqDiff, ini, frz, rdAo, rd3o, rd2o, rdpo, rd1o, fnv, intv, VOp.dst, getRo, solEo, solo, solo1, allsz, List.all_cons, List.all_nil, Bool.and_true, beq_self_eq_true, List.length_cons, List.length_nil, Nat.zero_add, srcv, Nat.le_refl, List.take_succ_cons, List.take_zero, and_self, if_true, Nat.reduceAdd, Nat.reduceLT, eq_self, fldAv, ↓ldv_f, ↓ldv_n, ↓stv_f, ↓stv_a, fldv, setf, bldv, small, Bool.true_and, List.getElem?_cons_zero, List.getElem?_cons_succ, List.set_cons_zero, List.set_cons_succ, Bool.false_eq_true, if_false, true_and, and_true, reduceCtorEq, false_implies, implies_true, forall_const, show (k : Int) - h.path.size = ((k - h.path.size : Nat) : Int) by omega, wrap64 ((k - h.path.size : Nat) : Int) (by omega), show ¬ ((k - h.path.size : Nat) : Int) < 0 by omega, ↓rd_strs, ↓r_any]
  refine call_rule (h1 (k - h.path.size) (by omega)) ?_
  rintro lo1 hi1 r g1 g2 ⟨i, rfl, hi⟩
  by_cases hneg : i < 0
  · simp -dsimp only [↓SD, SP, ↓reduceIte, Nat.reduceEqDiff, ini, frz, rdAo, rd3o, rd2o, rdpo, rd1o, fnv, intv, VOp.dst, getRo, solEo, solo, solo1, allsz, List.all_cons, List.all_nil, Bool.and_true, beq_self_eq_true, List.length_cons, List.length_nil, Nat.zero_add, srcv, Nat.le_refl, List.take_succ_cons, List.take_zero, and_self, if_true, Nat.reduceAdd, Nat.reduceLT, eq_self, hneg, ↓r_any]
    exact ⟨_, rfl, by omega⟩
  obtain ⟨ho, k1, rfl, hk1⟩ := hi (by omega)
  simp -dsimp only [↓SD, SP, ↓reduceIte, Nat.reduceEqDiff, ini, frz, rdAo, rd3o, rd2o, rdpo, rd1o, fnv, intv, VOp.dst, getRo, solEo, solo, solo1, allsz, List.all_cons, List.all_nil, Bool.and_true, beq_self_eq_true, List.length_cons, List.length_nil, Nat.zero_add, srcv, Nat.le_refl, List.take_succ_cons, List.take_zero, and_self, if_true, Nat.reduceAdd, Nat.reduceLT, eq_self, hneg, ↓r_any]
  exact ⟨_, rfl, fun _ => ⟨⟨by omega, ho⟩, k1, rfl, by omega⟩⟩
theorem rd_file (H : Hp) (h : FileL) : rd3o false H (fileV h) = some (fileV h, []) := by
  have h1 : (h.text.map AV.str).take h.text.length = h.text.map .str := List.take_of_length_le (by simp)
  simp [fileV, strs, rd3o, rd2o, rdpo, rdso, rd1o, h1]
theorem rd_fileF (H : Hp) (h : FileL) : rd3o true H (fileF h) = some (fileF h, []) := by
  simp [fileF, strsF, rd3o, rd2o, rdpo, rdso, rd1o]
theorem el_file : El 2 fileV := ⟨fun x => ⟨_, rfl, rfl⟩, rd_file⟩
theorem s_szFileS (xs : List FileL) (k : Nat) (hk : k ≤ 1000000) (hw : wfFs xs) : OK Go.Proofs.Tryd.prog 17 [filesV xs, .int .i64 k] (fun _ _ r => ∃ i : Int, r = .int .i64 i ∧ (0 ≤ i → okFs xs ∧ ∃ k' : Nat, i = k' ∧ k' ≤ k)) :=
  g_sz (f := 17) (s := 2) (fT := 34) k17 el_file okF xs k hk hw.1 fun x hx k hk => s_szFile x k hk (hw.2 x hx)
def IsFile (lo hi : Nat) (h : FileL) (bare : Bool) (r : AV) : Prop := ∃ l2, r = .agg [.str h.path, l2] ∧ IsStr lo hi h.text l2 ∧ (bare = false → Wk l2 (strsF h.text))
theorem s_toFile (h : FileL) (bare : Bool) (ho : okF h) : OK Go.Proofs.Tryd.prog 36 [fileV h, .bool bare] (fun lo hi r => IsFile lo hi h bare r) := by
  refine fn_ok k36 rfl ?_
  have h1 := s_toStringS h.text bare ho.2
  generalize OK Go.Proofs.Tryd.prog = L at *
  intro lo
  simp -dsimp only [↓SD, SP, ↓reduceIte, Nat.reduceEqDiff, ini, frz, rdAo, rd3o, rd2o, rdpo, rd1o, fnv, intv, VOp.dst, getRo, solEo, solo, solo1, allsz, List.all_cons, List.all_nil, Bool.and_true, beq_self_eq_true, List.length_cons, List.length_nil, Nat.zero_add, srcv, Nat.le_refl, List.take_succ_cons, List.take_zero, and_self, if_true, Nat.reduceAdd, Nat.reduceLT, eq_self, c36, fileV]
  refine bal_mk fun b hb => ?_
  simp -dsimp only [↓SD, SP, ↓reduceIte, Nat.reduceEqDiff, ini, frz, rdAo, rd3o, rd2o, rdpo, rd1o, fnv, intv, VOp.dst, getRo, solEo, solo, solo1, allsz, List.all_cons, List.all_nil, Bool.and_true, beq_self_eq_true, List.length_cons, List.length_nil, Nat.zero_add, srcv, Nat.le_refl, List.take_succ_cons, List.take_zero, and_self, if_true, Nat.reduceAdd, Nat.reduceLT, eq_self]
  refine bal_mk fun b1 hb1 => ?_
  simp -dsimp only [↓SD, SP, ↓reduceIte, Nat.reduceEqDiff, ini, frz, rdAo, rd3o, rd2o, rdpo, rd1o, fnv, intv, VOp.dst, getRo, solEo, solo, solo1, allsz, List.all_cons, List.all_nil, Bool.and_true, beq_self_eq_true, List.length_cons, List.length_nil, Nat.zero_add, srcv, Nat.le_refl, List.take_succ_cons, List.take_zero, and_self, if_true, Nat.reduceAdd, Nat.reduceLT, eq_self]
  refine bal_mk fun b2 hb2 => ?_
  simp -dsimp only [↓SD, SP, ↓reduceIte, Nat.reduceEqDiff, ini, frz, rdAo, rd3o, rd2o, rdpo, rd1o, fnv, intv, VOp.dst, getRo, solEo, solo, solo1, allsz, List.all_cons, List.all_nil, Bool.and_true, beq_self_eq_true, List.length_cons, List.length_nil, Nat.zero_add, srcv, Nat.le_refl, List.take_succ_cons, List.take_zero, and_self, if_true, Nat.reduceAdd, Nat.reduceLT, eq_self, fldAv, ↓ldv_f, ↓ldv_n, ↓stv_f, ↓stv_a, fldv, setf, bldv, small, Bool.true_and, List.getElem?_cons_zero, List.getElem?_cons_succ, List.set_cons_zero, List.set_cons_succ, Bool.false_eq_true, if_false, true_and, and_true, reduceCtorEq, false_implies, implies_true, forall_const, ↓rd_strs, ↓r_any]
  refine call_rule h1 ?_
  rintro lo1 hi1 l1 g1 g2 ⟨q1, q1'⟩
  obtain ⟨a1, a1'⟩ := q1.fld
  have e1 := fun H => sol1_wk (fl := false) (pf_strs h.text) q1.wk H
  simp -dsimp only [↓SD, SP, ↓reduceIte, Nat.reduceEqDiff, ini, frz, rdAo, rd3o, rd2o, rdpo, rd1o, fnv, intv, VOp.dst, getRo, solEo, solo, solo1, allsz, List.all_cons, List.all_nil, Bool.and_true, beq_self_eq_true, List.length_cons, List.length_nil, Nat.zero_add, srcv, Nat.le_refl, List.take_succ_cons, List.take_zero, and_self, if_true, Nat.reduceAdd, Nat.reduceLT, eq_self, fldAv, ↓ldv_f, ↓ldv_n, ↓stv_f, ↓stv_a, fldv, setf, bldv, small, Bool.true_and, List.getElem?_cons_zero, List.getElem?_cons_succ, List.set_cons_zero, List.set_cons_succ, Bool.false_eq_true, if_false, true_and, and_true, reduceCtorEq, false_implies, implies_true, forall_const, ↓r_any, a1, a1', ↓e1, solso]
  refine ⟨l1, rfl, q1.mono (by omega) (Nat.le_refl _), fun hb => ?_⟩
  obtain ⟨b1, _, _, rfl⟩ := q1' hb
  exact Wk.strip _ _ _ (by simp [roomy])
theorem IsFile.wk {lo hi : Nat} {h : FileL} {bare : Bool} {r : AV} (hr : IsFile lo hi h bare r) : Wk r (fileV h) := by
  obtain ⟨l1, rfl, q1, _⟩ := hr
  exact wk_l2 (.refl _) q1.wk
theorem IsFile.wkF {lo hi : Nat} {h : FileL} {r : AV} (hr : IsFile lo hi h false r) : Wk r (fileF h) := by
  obtain ⟨l1, rfl, q1, q3⟩ := hr
  exact wk_l2 (.refl _) (q3 rfl)
theorem IsFile.tin {lo hi : Nat} {h : FileL} {bare : Bool} {r : AV} (hr : IsFile lo hi h bare r) : Tin lo hi (tags r) := by
  obtain ⟨l1, rfl, q1, _⟩ := hr
  simp only [tags, tagsL, List.nil_append, List.append_nil]
  exact q1.tin
theorem IsFile.agg {lo hi : Nat} {h : FileL} {bare : Bool} {r : AV} (hr : IsFile lo hi h bare r) : ∃ fs, r = .agg fs ∧ fs.length = 2 := by
  obtain ⟨l1, rfl, _⟩ := hr
  exact ⟨_, rfl, rfl⟩
def FlF (r : AV) : Prop := ∃ b1 : Nat, r = .agg [.str spare, .lsl (some (b1, 1)) 1 ([spare].map .str)]
theorem FlF.wk {r : AV} (h : FlF r) : Wk r (fileV fillFl) := by
  obtain ⟨b1, rfl⟩ := h
  exact wk_l2 (.refl _) (Wk.strip _ _ _ (by simp))
theorem s_fillerFile : OK Go.Proofs.Tryd.prog 54 [] (fun lo hi r => FlF r ∧ Tin lo hi (tags r)) := by
  refine fn_ok k54 rfl ?_
  generalize OK Go.Proofs.Tryd.prog = L at *
  intro lo
  simp -dsimp only [↓SD, SP, ↓reduceIte, Nat.reduceEqDiff, ini, frz, rdAo, rd3o, rd2o, rdpo, rd1o, fnv, intv, VOp.dst, getRo, solEo, solo, solo1, allsz, List.all_cons, List.all_nil, Bool.and_true, beq_self_eq_true, List.length_cons, List.length_nil, Nat.zero_add, srcv, Nat.le_refl, List.take_succ_cons, List.take_zero, and_self, if_true, Nat.reduceAdd, Nat.reduceLT, eq_self, c54]
  refine bal_mk fun b hb => ?_
  simp -dsimp only [↓SD, SP, ↓reduceIte, Nat.reduceEqDiff, ini, frz, rdAo, rd3o, rd2o, rdpo, rd1o, fnv, intv, VOp.dst, getRo, solEo, solo, solo1, allsz, List.all_cons, List.all_nil, Bool.and_true, beq_self_eq_true, List.length_cons, List.length_nil, Nat.zero_add, srcv, Nat.le_refl, List.take_succ_cons, List.take_zero, and_self, if_true, Nat.reduceAdd, Nat.reduceLT, eq_self]
  refine bal_mk fun b1 hb1 => ?_
  simp -dsimp only [↓SD, SP, ↓reduceIte, Nat.reduceEqDiff, ini, frz, rdAo, rd3o, rd2o, rdpo, rd1o, fnv, intv, VOp.dst, getRo, solEo, solo, solo1, allsz, List.all_cons, List.all_nil, Bool.and_true, beq_self_eq_true, List.length_cons, List.length_nil, Nat.zero_add, srcv, Nat.le_refl, List.take_succ_cons, List.take_zero, and_self, if_true, Nat.reduceAdd, Nat.reduceLT, eq_self, fldAv, ↓ldv_f, ↓ldv_n, ↓stv_f, ↓stv_a, fldv, setf, bldv, small, Bool.true_and, List.getElem?_cons_zero, List.getElem?_cons_succ, List.set_cons_zero, List.set_cons_succ, Bool.false_eq_true, if_false, true_and, and_true, reduceCtorEq, false_implies, implies_true, forall_const, solso]
  refine ⟨⟨b1, rfl⟩, ?_⟩
  · simp only [tags, tagsL, List.nil_append, List.append_nil, List.cons_append]
    exact (Tin.nil.cons (by simp) (by omega) (by omega) : Tin lo (b1 + 1) [b1])
theorem s_toFileS (xs : List FileL) (bare : Bool) (ho : okFs xs) : OK Go.Proofs.Tryd.prog 19 [filesV xs, .bool bare] (fun lo hi r => IsL 2 (fun lo hi x r => IsFile lo hi x bare r) FlF lo hi xs bare r) :=
  g_to (f := 19) (s := 2) (bytes := 40) (fT := 36) (fF := 54) (fR := 53) (z := .agg [.str ⟨#[]⟩, .emp]) k19 (by decide) (by decide) el_file _ _
    (fun lo hi x r hr => ⟨hr.agg, hr.tin, fun H => sol_wk hr.wk (pl_file (fl := false) x) H⟩) (fun r hr => ⟨by obtain ⟨b1, rfl⟩ := hr; exact ⟨_, rfl, rfl⟩, fun H => sol_wk hr.wk (pl_file (fl := false) fillFl) H⟩) xs bare ho.1 (fun k hk => s54 k hk) (fun x hx => s_toFile x bare (ho.2 x hx))
    s_fillerFile
theorem s_eqFile (x y : FileL) (h1 : x.text.length ≤ 10000000) : OK Go.Proofs.Tryd.prog 65 [fileV x, fileV y] (fun _ _ r => r = .bool (decide (x = y))) := by
  refine fn_ok k65 rfl ?_
  have e1 := s49 x.text y.text h1
  generalize OK Go.Proofs.Tryd.prog = L at *
  intro lo
  obtain ⟨a, l⟩ := x
  obtain ⟨a', l'⟩ := y
  simp -dsimp only [↓SD, SP, ↓reduceIte, Nat.reduceEqDiff, ini, frz, rdAo, rd3o, rd2o, rdpo, rd1o, fnv, intv, VOp.dst, getRo, solEo, solo, solo1, allsz, List.all_cons, List.all_nil, Bool.and_true, beq_self_eq_true, List.length_cons, List.length_nil, Nat.zero_add, srcv, Nat.le_refl, List.take_succ_cons, List.take_zero, and_self, if_true, Nat.reduceAdd, Nat.reduceLT, eq_self, c65, fileV]
  refine bal_mk fun b hb => ?_
  simp -dsimp only [↓SD, SP, ↓reduceIte, Nat.reduceEqDiff, ini, frz, rdAo, rd3o, rd2o, rdpo, rd1o, fnv, intv, VOp.dst, getRo, solEo, solo, solo1, allsz, List.all_cons, List.all_nil, Bool.and_true, beq_self_eq_true, List.length_cons, List.length_nil, Nat.zero_add, srcv, Nat.le_refl, List.take_succ_cons, List.take_zero, and_self, if_true, Nat.reduceAdd, Nat.reduceLT, eq_self]
  refine bal_mk fun b1 hb1 => ?_
  by_cases ha : a = a'
  · simp -dsimp only [↓SD, SP, ↓reduceIte, Nat.reduceEqDiff, ini, frz, rdAo, rd3o, rd2o, rdpo, rd1o, fnv, intv, VOp.dst, getRo, solEo, solo, solo1, allsz, List.all_cons, List.all_nil, Bool.and_true, beq_self_eq_true, List.length_cons, List.length_nil, Nat.zero_add, srcv, Nat.le_refl, List.take_succ_cons, List.take_zero, and_self, if_true, Nat.reduceAdd, Nat.reduceLT, eq_self, fldAv, ↓ldv_f, ↓ldv_n, ↓stv_f, ↓stv_a, fldv, setf, bldv, small, Bool.true_and, List.getElem?_cons_zero, List.getElem?_cons_succ, List.set_cons_zero, List.set_cons_succ, Bool.false_eq_true, if_false, true_and, and_true, reduceCtorEq, false_implies, implies_true, forall_const, ha, ↓rd_strs, ↓r_any]
    refine call_rule e1 ?_
    rintro lo1 hi1 r - - rfl
    by_cases hl : l = l'
    · simp -dsimp only [↓SD, SP, ↓reduceIte, Nat.reduceEqDiff, ini, frz, rdAo, rd3o, rd2o, rdpo, rd1o, fnv, intv, VOp.dst, getRo, solEo, solo, solo1, allsz, List.all_cons, List.all_nil, Bool.and_true, beq_self_eq_true, List.length_cons, List.length_nil, Nat.zero_add, srcv, Nat.le_refl, List.take_succ_cons, List.take_zero, and_self, if_true, Nat.reduceAdd, Nat.reduceLT, eq_self, fldAv, ↓ldv_f, ↓ldv_n, ↓stv_f, ↓stv_a, fldv, setf, bldv, small, Bool.true_and, List.getElem?_cons_zero, List.getElem?_cons_succ, List.set_cons_zero, List.set_cons_succ, Bool.false_eq_true, if_false, true_and, and_true, reduceCtorEq, false_implies, implies_true, forall_const, hl, ↓r_any]
      simp [ha, hl]
    · simp -dsimp only [↓SD, SP, ↓reduceIte, Nat.reduceEqDiff, ini, frz, rdAo, rd3o, rd2o, rdpo, rd1o, fnv, intv, VOp.dst, getRo, solEo, solo, solo1, allsz, List.all_cons, List.all_nil, Bool.and_true, beq_self_eq_true, List.length_cons, List.length_nil, Nat.zero_add, srcv, Nat.le_refl, List.take_succ_cons, List.take_zero, and_self, if_true, Nat.reduceAdd, Nat.reduceLT, eq_self, fldAv, ↓ldv_f, ↓ldv_n, ↓stv_f, ↓stv_a, fldv, setf, bldv, small, Bool.true_and, List.getElem?_cons_zero, List.getElem?_cons_succ, List.set_cons_zero, List.set_cons_succ, Bool.false_eq_true, if_false, true_and, and_true, reduceCtorEq, false_implies, implies_true, forall_const, hl, ↓r_any]
      simp [hl]
  · simp -dsimp only [↓SD, SP, ↓reduceIte, Nat.reduceEqDiff, ini, frz, rdAo, rd3o, rd2o, rdpo, rd1o, fnv, intv, VOp.dst, getRo, solEo, solo, solo1, allsz, List.all_cons, List.all_nil, Bool.and_true, beq_self_eq_true, List.length_cons, List.length_nil, Nat.zero_add, srcv, Nat.le_refl, List.take_succ_cons, List.take_zero, and_self, if_true, Nat.reduceAdd, Nat.reduceLT, eq_self, fldAv, ↓ldv_f, ↓ldv_n, ↓stv_f, ↓stv_a, fldv, setf, bldv, small, Bool.true_and, List.getElem?_cons_zero, List.getElem?_cons_succ, List.set_cons_zero, List.set_cons_succ, Bool.false_eq_true, if_false, true_and, and_true, reduceCtorEq, false_implies, implies_true, forall_const, ha]
    simp [ha]
theorem s_eqFileS (xs ys : List FileL) (hx : xs.length ≤ 10000000) (h : ∀ x ∈ xs, x.text.length ≤ 10000000) : OK Go.Proofs.Tryd.prog 30 [filesV xs, filesV ys] (fun _ _ r => r = .bool (decide (xs = ys))) :=
  g_eq (f := 30) (s := 2) (fE := 65) k30 el_file xs ys hx fun x hx y hy => s_eqFile x y (h x hx)
theorem s_intactFile (x : FileL) (h : okF x) : OK Go.Proofs.Tryd.prog 38 [fileF x, fileF x] (fun _ _ r => r = .bool true) := by
  refine fn_ok k38 rfl ?_
  have e1 := s19' x.text h.2
  generalize OK Go.Proofs.Tryd.prog = L at *
  intro lo
  have r1 := fun H => rd3_of1 (r := strsF x.text) (fl := true) (H := H) rfl (by simp [strsF])
  have z1 : (strsF x.text).isAgg = false ∧ (strsF x.text).sz = 1 := ⟨rfl, rfl⟩
  simp -dsimp only [↓SD, SP, ↓reduceIte, Nat.reduceEqDiff, ini, frz, rdAo, rd3o, rd2o, rdpo, rd1o, fnv, intv, VOp.dst, getRo, solEo, solo, solo1, allsz, List.all_cons, List.all_nil, Bool.and_true, beq_self_eq_true, List.length_cons, List.length_nil, Nat.zero_add, srcv, Nat.le_refl, List.take_succ_cons, List.take_zero, and_self, if_true, Nat.reduceAdd, Nat.reduceLT, eq_self, c38, fileF]
  refine bal_mk fun b hb => ?_
  simp -dsimp only [↓SD, SP, ↓reduceIte, Nat.reduceEqDiff, ini, frz, rdAo, rd3o, rd2o, rdpo, rd1o, fnv, intv, VOp.dst, getRo, solEo, solo, solo1, allsz, List.all_cons, List.all_nil, Bool.and_true, beq_self_eq_true, List.length_cons, List.length_nil, Nat.zero_add, srcv, Nat.le_refl, List.take_succ_cons, List.take_zero, and_self, if_true, Nat.reduceAdd, Nat.reduceLT, eq_self]
  refine bal_mk fun b1 hb1 => ?_
  simp -dsimp only [↓SD, SP, ↓reduceIte, Nat.reduceEqDiff, ini, frz, rdAo, rd3o, rd2o, rdpo, rd1o, fnv, intv, VOp.dst, getRo, solEo, solo, solo1, allsz, List.all_cons, List.all_nil, Bool.and_true, beq_self_eq_true, List.length_cons, List.length_nil, Nat.zero_add, srcv, Nat.le_refl, List.take_succ_cons, List.take_zero, and_self, if_true, Nat.reduceAdd, Nat.reduceLT, eq_self, fldAv, ↓ldv_f, ↓ldv_n, ↓stv_f, ↓stv_a, fldv, setf, bldv, small, Bool.true_and, List.getElem?_cons_zero, List.getElem?_cons_succ, List.set_cons_zero, List.set_cons_succ, Bool.false_eq_true, if_false, true_and, and_true, reduceCtorEq, false_implies, implies_true, forall_const, ↓r1, z1, ↓r_any]
  refine call_rule e1 ?_
  rintro lo1 hi1 r - - rfl
  simp -dsimp only [↓SD, SP, ↓reduceIte, Nat.reduceEqDiff, ini, frz, rdAo, rd3o, rd2o, rdpo, rd1o, fnv, intv, VOp.dst, getRo, solEo, solo, solo1, allsz, List.all_cons, List.all_nil, Bool.and_true, beq_self_eq_true, List.length_cons, List.length_nil, Nat.zero_add, srcv, Nat.le_refl, List.take_succ_cons, List.take_zero, and_self, if_true, Nat.reduceAdd, Nat.reduceLT, eq_self, ↓r_any]
abbrev filesF (xs : List FileL) : AV := fullL fileF fileV fillFl xs
theorem s_intactFileS (xs : List FileL) (ho : okFs xs) : OK Go.Proofs.Tryd.prog 21 [filesF xs, filesF xs] (fun _ _ r => r = .bool true) :=
  g_in (f := 21) (s := 2) (fI := 38) (fE := 30) (fR := 53) k21 (by decide) el_file (fun x => ⟨_, rfl, rfl⟩) rd_fileF xs ho.1 (fun k hk => s54 k hk) (fun x hx => s_intactFile x (ho.2 x hx))
    (fun n hn => (s_eqFileS _ _ (by simpa using hn) (fun x hx => by rw [List.eq_of_mem_replicate hx]; decide)).weak fun _ _ r hr => by simpa using hr)
theorem files_sz (xs : List FileL) (k : Nat) (hk : k ≤ 1000000) (hw : wfFs xs) : OK Go.Proofs.Tryd.prog 17 [filesV xs, .int .i64 k] (fun _ _ r => SzR (okFs xs) k r) := s_szFileS xs k hk hw
theorem files_to (xs : List FileL) (b : Bool) (ho : okFs xs) : OK Go.Proofs.Tryd.prog 19 [filesV xs, .bool b] (fun lo hi r => ToR (filesV xs) (filesF xs) b lo hi r) :=
  (s_toFileS xs b ho).weak fun lo hi r q => ⟨q.wk fun _ _ _ _ h => h.wk, fun hb => by subst hb; exact q.wkF (e := fileV) (fx := fillFl) (fun _ h => h.wk) fun _ _ _ _ h => h.wkF, q.tin⟩
theorem files_in (xs : List FileL) (ho : okFs xs) : OK Go.Proofs.Tryd.prog 21 [filesF xs, filesF xs] (fun _ _ r => r = .bool true) := s_intactFileS xs ho
theorem files_pl (xs : List FileL) : Pl false (filesV xs) := .fld _ (pf_lv _ _)
theorem files_plF (xs : List FileL) : Pl true (filesF xs) := .fld _ (pf_full _ _ _ _)
end Go.AVM

/- Trees: the plain law. -/
set_option linter.unusedSimpArgs false
set_option linter.unusedVariables false
namespace Go.AVM
/-- of each element, by its place -/
def allI {α : Type} (p : Nat → α → Bool) (t : List α) : Bool := (List.range t.length).all fun j => ((t[j]?).map (p j)).getD true
theorem allI_iff {α : Type} {p : Nat → α → Bool} {t : List α} : allI p t = true ↔ ∀ j f, t[j]? = some f → p j f = true := by
  unfold allI
  rw [List.all_eq_true]
  constructor
  · intro h j f hf
    have hj := (List.getElem?_eq_some_iff.1 hf).1
    have := h j (List.mem_range.2 hj)
    rw [hf] at this
    exact this
  · intro h j hj
    cases hf : t[j]? with
    | none => rfl
    | some f => exact h j f hf
theorem allI_no {α : Type} {p : Nat → α → Bool} {t : List α} {j : Nat} {f : α} (hf : t[j]? = some f) (h : p j f = false) : allI p t = false := by
  cases h' : allI p t with
  | false => rfl
  | true => rw [allI_iff.1 h' j f hf] at h; cases h
theorem allI_yes {α : Type} {p : Nat → α → Bool} {t : List α} (h : ∀ j, j < t.length → ∀ f, t[j]? = some f → p j f = true) : allI p t = true :=
  allI_iff.2 fun j f hf => h j (List.getElem?_eq_some_iff.1 hf).1 f hf
def prevLt (t : List FileL) (i : Nat) (f : FileL) : Bool := decide (i = 0) || ((t[i - 1]?).map fun g => sLt g.path f.path).getD true
def okI (t : List FileL) (i : Nat) (f : FileL) : Bool := pathOk f.path && (textOk f.text && (prevLt t i f && !((t.take i).any fun o => pathIn o.path f.path)))
def okS (t : List FileL) (i : Nat) (f : FileL) : Bool := pathOk f.path && (textOk f.text && (prevLt t i f && !(t.any fun o => inB f.path o.path)))
def treeOk (t : List FileL) : Bool := allI (okI t) t && decide (t.length ≤ 8)
def treeOkS (t : List FileL) : Bool := allI (okS t) t && decide (t.length ≤ 8)
theorem asc_of {t : List FileL} (h : ∀ j f, t[j]? = some f → prevLt t j f = true) : ∀ (k i : Nat) (a b : FileL), i < k → t[i]? = some a → t[k]? = some b → sLt a.path b.path = true := by
  intro k
  induction k with
  | zero => intro i a b hi; omega
  | succ k ih =>
    intro i a b hi ha hb
    have hk := (List.getElem?_eq_some_iff.1 hb).1
    have hc : t[k]? = some t[k] := List.getElem?_eq_getElem (by omega)
    have h1 := h (k + 1) b hb
    simp only [prevLt, Nat.add_sub_cancel, hc, Option.map_some, Option.getD_some, Bool.or_eq_true, decide_eq_true_eq] at h1
    have h2 : sLt t[k].path b.path = true := by
      rcases h1 with h1 | h1
      · omega
      · exact h1
    by_cases hik : i = k
    · subst hik
      rw [hc] at ha
      obtain rfl := Option.some.inj ha
      exact h2
    · exact sLt_trans (ih i a t[k] (by omega) ha hc) h2
theorem treeOkS_eq (t : List FileL) : treeOkS t = treeOk t := by
  unfold treeOkS treeOk
  congr 1
  rw [Bool.eq_iff_iff, allI_iff, allI_iff]
  constructor
  · intro h j f hf
    have h1 := h j f hf
    simp only [okS, okI, Bool.and_eq_true, Bool.not_eq_true'] at h1 ⊢
    refine ⟨h1.1, h1.2.1, h1.2.2.1, ?_⟩
    rw [List.any_eq_false]
    intro o ho
    obtain ⟨k, hk, rfl⟩ := List.getElem_of_mem (List.mem_of_mem_take ho)
    have h2 := h k t[k] (List.getElem?_eq_getElem hk)
    simp only [okS, Bool.and_eq_true, Bool.not_eq_true'] at h2
    have h3 := List.any_eq_false.1 h2.2.2.2 f (List.mem_of_getElem? hf)
    rw [pathIn_of h1.1]
    exact h3
  · intro h j f hf
    have h1 := h j f hf
    simp only [okS, okI, Bool.and_eq_true, Bool.not_eq_true'] at h1 ⊢
    refine ⟨h1.1, h1.2.1, h1.2.2.1, ?_⟩
    have hp : ∀ j f, t[j]? = some f → prevLt t j f = true := fun j f hf => by
      have := h j f hf
      simp only [okI, Bool.and_eq_true] at this
      exact this.2.2.1
    rw [List.any_eq_false]
    intro g hg hin
    obtain ⟨k, hk, rfl⟩ := List.getElem_of_mem hg
    have hgk : t[k]? = some t[k] := List.getElem?_eq_getElem hk
    have hlt := in_lt hin
    have h2 := h k _ hgk
    simp only [okI, Bool.and_eq_true, Bool.not_eq_true'] at h2
    rcases Nat.lt_trichotomy j k with hjk | rfl | hjk
    · have hmem : f ∈ t.take k := by
        refine List.mem_of_getElem? (i := j) ?_
        rw [List.getElem?_take_of_lt hjk]
        exact hf
      have h3 := List.any_eq_false.1 h2.2.2.2 f hmem
      rw [pathIn_of h2.1] at h3
      exact h3 hin
    · rw [hgk] at hf
      obtain rfl := Option.some.inj hf
      rw [sLt_irrefl] at hlt
      cases hlt
    · have := asc_of hp j k _ _ hjk hgk hf
      rw [sLt_asymm this] at hlt
      cases hlt
theorem treeOk_len {t : List FileL} (h : treeOk t = true) : t.length ≤ 8 := by
  simp only [treeOk, Bool.and_eq_true, decide_eq_true_eq] at h
  exact h.2
theorem treeOk_at {t : List FileL} (h : treeOk t = true) {j : Nat} {f : FileL} (hf : t[j]? = some f) : pathOk f.path = true ∧ textOk f.text = true := by
  simp only [treeOk, Bool.and_eq_true] at h
  have := allI_iff.1 h.1 j f hf
  simp only [okI, Bool.and_eq_true] at this
  exact ⟨this.1, this.2.1⟩
theorem treeOk_asc {t : List FileL} (h : treeOk t = true) {i k : Nat} {a b : FileL} (hik : i < k) (ha : t[i]? = some a) (hb : t[k]? = some b) : sLt a.path b.path = true := by
  simp only [treeOk, Bool.and_eq_true] at h
  refine asc_of (fun j f hf => ?_) k i a b hik ha hb
  have := allI_iff.1 h.1 j f hf
  simp only [okI, Bool.and_eq_true] at this
  exact this.2.2.1
end Go.AVM

/- Trees: what TreeOk gives, both. -/
set_option linter.unusedSimpArgs false
set_option linter.unusedVariables false
namespace Go.AVM
theorem fa_o (f d b s i : Nat) : fldAv f (.optr d b s i none) = if f < s then some (.optr d b s i (some f)) else none := Eq.trans rfl rfl
theorem fa_f0 (h : FileL) : fldAv 0 (.lptr (fileV h)) = some (.lptr (.str h.path)) := by simp [fldAv, fileV, strs, AV.isAgg, AV.sz]
theorem fa_f1 (h : FileL) : fldAv 1 (.lptr (fileV h)) = some (.lptr (strs h.text)) := by simp [fldAv, fileV, strs, AV.isAgg, AV.sz]
theorem fv_f0 (h : FileL) : fldv 0 (fileV h) = some (.str h.path) := by simp [fldv, fileV, AV.isAgg]
theorem fv_f1 (h : FileL) : fldv 1 (fileV h) = some (strs h.text) := by simp [fldv, fileV, strs, AV.isAgg]
theorem sz_file (h : FileL) : (fileV h).sz = 2 := Eq.trans rfl rfl
theorem fz_file (h : FileL) : fitsz (some 2) (fileV h) = true := by simp [fitsz, fileV]
theorem stv_fl (H : Hp) (h : FileL) (d b s i : Nat) : stv H (some 2) (fileV h) (.optr d b s i none) = (H d).bind fun k0 => if k0.row = true then stvS H 2 (fileV h) d b s i else
    if k0.b = b ∧ k0.s = s ∧ k0.fz = false ∧ i < k0.xs.length ∧ 2 = 2 ∧ 2 = s then some (updH H d (some { k0 with xs := k0.xs.set i (fileV h) })) else none := stv_a H 2 _ d b s i
theorem rd_slF (H : Hp) (n : Nat) (ys : List FileL) (h : n ≤ ys.length) : rd3o false H (.lsl none n (ys.map fileV)) = some (filesV (ys.take n), []) := by
  simp [rd3o, rd2o, rdpo, rd1o, lv, h, List.map_take, Nat.min_eq_left h]
theorem sl_filesTo (H : Hp) (t : List FileL) (i : Nat) (h : i ≤ t.length) : slcv H 2 (filesV t) none (some (.int .i64 i)) = some (.lsl none i (t.map fileV)) := by
  simp [slcv, lv]
  omega
/-- slices.IndexFunc, with a closure that holds a pointer -/
theorem s_idxF (p : FileL → Bool) (f : Nat) (c : AV) (xs : List FileL) (h : xs.length ≤ 1000000) (hf : ∀ x ∈ xs, OK Go.Proofs.Tryd.prog f [fileV x, .lptr c] (fun _ _ r => r = .bool (p x))) :
    OK Go.Proofs.Tryd.prog 90 [filesV xs, .fn f [.lptr c]] (fun _ _ r => ∃ k : Int, r = .int .i64 k ∧ decide (0 ≤ k) = xs.any p) := by
  refine fn_ok k90 rfl ?_
  generalize OK Go.Proofs.Tryd.prog = L at hf ⊢
  intro lo
  simp -dsimp only [↓SD, SP, ↓reduceIte, Nat.reduceEqDiff, ini, frz, rdAo, rd3o, rd2o, rdpo, rd1o, fnv, intv, VOp.dst, getRo, solEo, solo, solo1, allsz, List.all_cons, List.all_nil, Bool.and_true, beq_self_eq_true, List.length_cons, List.length_nil, Nat.zero_add, srcv, Nat.le_refl, List.take_succ_cons, List.take_zero, and_self, if_true, Nat.reduceAdd, Nat.reduceLT, eq_self, c90, l_lv]
  refine loop_rule (fun m E H n => ∃ i : Nat, m + i = xs.length ∧ E 0 = filesV xs ∧ E 1 = .fn f [.lptr c] ∧ E 7 = .int .i64 xs.length ∧ E 8 = .int .i64 i ∧ (xs.take i).any p = false)
    (fun e E H n => (e = .exit 0 ∧ xs.any p = false) ∨ (e = .ret ∧ ∃ k : Int, E 4 = .int .i64 k ∧ decide (0 ≤ k) = xs.any p)) xs.length ⟨0, rfl, rfl, rfl, rfl, rfl, rfl⟩ ?_ ?_
  · rintro e E H n (⟨rfl, h0⟩ | ⟨rfl, k, h2, h3⟩)
    · simp -dsimp only [↓SD, SP, ↓reduceIte, Nat.reduceEqDiff, ini, frz, rdAo, rd3o, rd2o, rdpo, rd1o, fnv, intv, VOp.dst, getRo, solEo, solo, solo1, allsz, List.all_cons, List.all_nil, Bool.and_true, beq_self_eq_true, List.length_cons, List.length_nil, Nat.zero_add, srcv, Nat.le_refl, List.take_succ_cons, List.take_zero, and_self, if_true, Nat.reduceAdd, Nat.reduceLT, eq_self]
      exact ⟨_, rfl, by simp [h0]⟩
    · simp -dsimp only [↓SD, SP, ↓reduceIte, Nat.reduceEqDiff, ini, frz, rdAo, rd3o, rd2o, rdpo, rd1o, fnv, intv, VOp.dst, getRo, solEo, solo, solo1, allsz, List.all_cons, List.all_nil, Bool.and_true, beq_self_eq_true, List.length_cons, List.length_nil, Nat.zero_add, srcv, Nat.le_refl, List.take_succ_cons, List.take_zero, and_self, if_true, Nat.reduceAdd, Nat.reduceLT, eq_self, h2]
      exact ⟨_, rfl, h3⟩
  · rintro m E H n Q K ⟨i, hm, h0, h1, h7, h8, hp⟩ hQ hK
    by_cases hi : i < xs.length
    · simp -dsimp only [↓SD, SP, ↓reduceIte, Nat.reduceEqDiff, ini, frz, rdAo, rd3o, rd2o, rdpo, rd1o, fnv, intv, VOp.dst, getRo, solEo, solo, solo1, allsz, List.all_cons, List.all_nil, Bool.and_true, beq_self_eq_true, List.length_cons, List.length_nil, Nat.zero_add, srcv, Nat.le_refl, List.take_succ_cons, List.take_zero, and_self, if_true, Nat.reduceAdd, Nat.reduceLT, eq_self, h0, h1, h7, h8, Int.ofNat_lt, hi, x_lv el_file _ _ hi, ↓d_lv el_file, ↓rd_file, ↓r_any]
      refine call_rule (hf xs[i] (List.getElem_mem hi)) ?_
      rintro lo' hi' r g1 g2 rfl
      have hany : (xs.take (i + 1)).any p = p xs[i] := by
        rw [List.take_succ_eq_append_getElem hi, List.any_append, hp]
        simp
      cases hb : p xs[i]
      · simp -dsimp only [↓SD, SP, ↓reduceIte, Nat.reduceEqDiff, ini, frz, rdAo, rd3o, rd2o, rdpo, rd1o, fnv, intv, VOp.dst, getRo, solEo, solo, solo1, allsz, List.all_cons, List.all_nil, Bool.and_true, beq_self_eq_true, List.length_cons, List.length_nil, Nat.zero_add, srcv, Nat.le_refl, List.take_succ_cons, List.take_zero, and_self, if_true, Nat.reduceAdd, Nat.reduceLT, eq_self, h0, h1, h7, h8, hb, wrap64 ((i : Int) + 1) (by omega)]
        refine hK (m - 1) _ _ _ (by omega) ⟨i + 1, by omega, by first | (simp -dsimp only [↓SD, SP, ↓reduceIte, Nat.reduceEqDiff, ini, frz, rdAo, rd3o, rd2o, rdpo, rd1o, fnv, intv, VOp.dst, getRo, solEo, solo, solo1, allsz, List.all_cons, List.all_nil, Bool.and_true, beq_self_eq_true, List.length_cons, List.length_nil, Nat.zero_add, srcv, Nat.le_refl, List.take_succ_cons, List.take_zero, and_self, if_true, Nat.reduceAdd, Nat.reduceLT, eq_self, h0]; done) | (simp -dsimp only [↓SD, SP, ↓reduceIte, Nat.reduceEqDiff, ini, frz, rdAo, rd3o, rd2o, rdpo, rd1o, fnv, intv, VOp.dst, getRo, solEo, solo, solo1, allsz, List.all_cons, List.all_nil, Bool.and_true, beq_self_eq_true, List.length_cons, List.length_nil, Nat.zero_add, srcv, Nat.le_refl, List.take_succ_cons, List.take_zero, and_self, if_true, Nat.reduceAdd, Nat.reduceLT, eq_self, h0]; rfl) | rfl, by first | (simp -dsimp only [↓SD, SP, ↓reduceIte, Nat.reduceEqDiff, ini, frz, rdAo, rd3o, rd2o, rdpo, rd1o, fnv, intv, VOp.dst, getRo, solEo, solo, solo1, allsz, List.all_cons, List.all_nil, Bool.and_true, beq_self_eq_true, List.length_cons, List.length_nil, Nat.zero_add, srcv, Nat.le_refl, List.take_succ_cons, List.take_zero, and_self, if_true, Nat.reduceAdd, Nat.reduceLT, eq_self, h1]; done) | (simp -dsimp only [↓SD, SP, ↓reduceIte, Nat.reduceEqDiff, ini, frz, rdAo, rd3o, rd2o, rdpo, rd1o, fnv, intv, VOp.dst, getRo, solEo, solo, solo1, allsz, List.all_cons, List.all_nil, Bool.and_true, beq_self_eq_true, List.length_cons, List.length_nil, Nat.zero_add, srcv, Nat.le_refl, List.take_succ_cons, List.take_zero, and_self, if_true, Nat.reduceAdd, Nat.reduceLT, eq_self, h1]; rfl) | rfl, by first | (simp -dsimp only [↓SD, SP, ↓reduceIte, Nat.reduceEqDiff, ini, frz, rdAo, rd3o, rd2o, rdpo, rd1o, fnv, intv, VOp.dst, getRo, solEo, solo, solo1, allsz, List.all_cons, List.all_nil, Bool.and_true, beq_self_eq_true, List.length_cons, List.length_nil, Nat.zero_add, srcv, Nat.le_refl, List.take_succ_cons, List.take_zero, and_self, if_true, Nat.reduceAdd, Nat.reduceLT, eq_self, h7]; done) | (simp -dsimp only [↓SD, SP, ↓reduceIte, Nat.reduceEqDiff, ini, frz, rdAo, rd3o, rd2o, rdpo, rd1o, fnv, intv, VOp.dst, getRo, solEo, solo, solo1, allsz, List.all_cons, List.all_nil, Bool.and_true, beq_self_eq_true, List.length_cons, List.length_nil, Nat.zero_add, srcv, Nat.le_refl, List.take_succ_cons, List.take_zero, and_self, if_true, Nat.reduceAdd, Nat.reduceLT, eq_self, h7]; rfl) | rfl, by first | (simp -dsimp only [↓SD, SP, ↓reduceIte, Nat.reduceEqDiff, ini, frz, rdAo, rd3o, rd2o, rdpo, rd1o, fnv, intv, VOp.dst, getRo, solEo, solo, solo1, allsz, List.all_cons, List.all_nil, Bool.and_true, beq_self_eq_true, List.length_cons, List.length_nil, Nat.zero_add, srcv, Nat.le_refl, List.take_succ_cons, List.take_zero, and_self, if_true, Nat.reduceAdd, Nat.reduceLT, eq_self, Int.natCast_add, Int.natCast_one]; done) | (simp -dsimp only [↓SD, SP, ↓reduceIte, Nat.reduceEqDiff, ini, frz, rdAo, rd3o, rd2o, rdpo, rd1o, fnv, intv, VOp.dst, getRo, solEo, solo, solo1, allsz, List.all_cons, List.all_nil, Bool.and_true, beq_self_eq_true, List.length_cons, List.length_nil, Nat.zero_add, srcv, Nat.le_refl, List.take_succ_cons, List.take_zero, and_self, if_true, Nat.reduceAdd, Nat.reduceLT, eq_self, Int.natCast_add, Int.natCast_one]; rfl) | rfl, by rw [hany, hb]⟩
      · simp -dsimp only [↓SD, SP, ↓reduceIte, Nat.reduceEqDiff, ini, frz, rdAo, rd3o, rd2o, rdpo, rd1o, fnv, intv, VOp.dst, getRo, solEo, solo, solo1, allsz, List.all_cons, List.all_nil, Bool.and_true, beq_self_eq_true, List.length_cons, List.length_nil, Nat.zero_add, srcv, Nat.le_refl, List.take_succ_cons, List.take_zero, and_self, if_true, Nat.reduceAdd, Nat.reduceLT, eq_self, h0, h1, h7, h8, hb]
        refine hQ _ _ _ _ (.inr ⟨rfl, (i : Int), ?_, ?_⟩)
        · simp -dsimp only [↓SD, SP, ↓reduceIte, Nat.reduceEqDiff, ini, frz, rdAo, rd3o, rd2o, rdpo, rd1o, fnv, intv, VOp.dst, getRo, solEo, solo, solo1, allsz, List.all_cons, List.all_nil, Bool.and_true, beq_self_eq_true, List.length_cons, List.length_nil, Nat.zero_add, srcv, Nat.le_refl, List.take_succ_cons, List.take_zero, and_self, if_true, Nat.reduceAdd, Nat.reduceLT, eq_self, h8]
        · rw [show xs.any p = true from List.any_eq_true.2 ⟨xs[i], List.getElem_mem hi, hb⟩]
          simp
    · simp -dsimp only [↓SD, SP, ↓reduceIte, Nat.reduceEqDiff, ini, frz, rdAo, rd3o, rd2o, rdpo, rd1o, fnv, intv, VOp.dst, getRo, solEo, solo, solo1, allsz, List.all_cons, List.all_nil, Bool.and_true, beq_self_eq_true, List.length_cons, List.length_nil, Nat.zero_add, srcv, Nat.le_refl, List.take_succ_cons, List.take_zero, and_self, if_true, Nat.reduceAdd, Nat.reduceLT, eq_self, h0, h1, h7, h8, Int.ofNat_lt, hi]
      refine hQ _ _ _ _ (.inl ⟨rfl, ?_⟩)
      rw [List.take_of_length_le (by omega)] at hp
      exact hp
/-- slices.ContainsFunc, with a closure that holds a pointer -/
theorem s_conF (p : FileL → Bool) (f : Nat) (c : AV) (xs : List FileL) (h : xs.length ≤ 1000000) (hf : ∀ x ∈ xs, OK Go.Proofs.Tryd.prog f [fileV x, .lptr c] (fun _ _ r => r = .bool (p x))) :
    OK Go.Proofs.Tryd.prog 56 [filesV xs, .fn f [.lptr c]] (fun _ _ r => r = .bool (xs.any p)) := by
  refine fn_ok k56 rfl ?_
  have hs := s_idxF p f c xs h hf
  generalize OK Go.Proofs.Tryd.prog = L at hs ⊢
  intro lo
  simp -dsimp only [↓SD, SP, ↓reduceIte, Nat.reduceEqDiff, ini, frz, rdAo, rd3o, rd2o, rdpo, rd1o, fnv, intv, VOp.dst, getRo, solEo, solo, solo1, allsz, List.all_cons, List.all_nil, Bool.and_true, beq_self_eq_true, List.length_cons, List.length_nil, Nat.zero_add, srcv, Nat.le_refl, List.take_succ_cons, List.take_zero, and_self, if_true, Nat.reduceAdd, Nat.reduceLT, eq_self, c56, ↓rd_lv, rds2o, ↓r_any]
  refine call_rule hs ?_
  rintro lo' hi' r g1 g2 ⟨k, rfl, hk⟩
  simp -dsimp only [↓SD, SP, ↓reduceIte, Nat.reduceEqDiff, ini, frz, rdAo, rd3o, rd2o, rdpo, rd1o, fnv, intv, VOp.dst, getRo, solEo, solo, solo1, allsz, List.all_cons, List.all_nil, Bool.and_true, beq_self_eq_true, List.length_cons, List.length_nil, Nat.zero_add, srcv, Nat.le_refl, List.take_succ_cons, List.take_zero, and_self, if_true, Nat.reduceAdd, Nat.reduceLT, eq_self, hk]
theorem s_treeOk1 (o f : FileL) (ho : o.path.size ≤ 1000000) (hf : f.path.size ≤ 1000000) : OK Go.Proofs.Tryd.prog 57 [fileV o, .lptr (fileV f)] (fun _ _ r => r = .bool (pathIn o.path f.path)) := by
  refine fn_ok k57 rfl ?_
  have h1 := s_implPathIn o.path f.path ho hf
  generalize OK Go.Proofs.Tryd.prog = L at *
  intro lo
  simp -dsimp only [↓SD, SP, ↓reduceIte, Nat.reduceEqDiff, ini, frz, rdAo, rd3o, rd2o, rdpo, rd1o, fnv, intv, VOp.dst, getRo, solEo, solo, solo1, allsz, List.all_cons, List.all_nil, Bool.and_true, beq_self_eq_true, List.length_cons, List.length_nil, Nat.zero_add, srcv, Nat.le_refl, List.take_succ_cons, List.take_zero, and_self, if_true, Nat.reduceAdd, Nat.reduceLT, eq_self, c57, sz_file]
  refine bal_mk fun b hb => ?_
  simp -dsimp only [↓SD, SP, ↓reduceIte, Nat.reduceEqDiff, ini, frz, rdAo, rd3o, rd2o, rdpo, rd1o, fnv, intv, VOp.dst, getRo, solEo, solo, solo1, allsz, List.all_cons, List.all_nil, Bool.and_true, beq_self_eq_true, List.length_cons, List.length_nil, Nat.zero_add, srcv, Nat.le_refl, List.take_succ_cons, List.take_zero, and_self, if_true, Nat.reduceAdd, Nat.reduceLT, eq_self, fa_o, ↓ldv_f, ↓ldv_n, ↓stv_f, ↓stv_a, fldv, setf, bldv, small, Bool.true_and, List.getElem?_cons_zero, List.getElem?_cons_succ, List.set_cons_zero, List.set_cons_succ, Bool.false_eq_true, if_false, true_and, and_true, reduceCtorEq, false_implies, implies_true, forall_const, ↓fv_f0, ↓fv_f1, fa_f0, fa_f1]
  refine call_rule h1 ?_
  rintro lo1 hi1 r - - rfl
  simp -dsimp only [↓SD, SP, ↓reduceIte, Nat.reduceEqDiff, ini, frz, rdAo, rd3o, rd2o, rdpo, rd1o, fnv, intv, VOp.dst, getRo, solEo, solo, solo1, allsz, List.all_cons, List.all_nil, Bool.and_true, beq_self_eq_true, List.length_cons, List.length_nil, Nat.zero_add, srcv, Nat.le_refl, List.take_succ_cons, List.take_zero, and_self, if_true, Nat.reduceAdd, Nat.reduceLT, eq_self]
theorem rd_capF (H : Hp) (d b : Nat) (f : FileL) (g : Nat) {fz row ex : Bool} (h : H d = some ⟨b, 2, [fileV f], fz, row, ex⟩) : rd3o false H (.fn g [.optr d b 2 0 none]) = some (.fn g [.lptr (fileV f)], [d]) := by
  have h1 : (f.text.map AV.str).take f.text.length = f.text.map .str := List.take_of_length_le (by simp)
  simp [rd3o, rds2o, rd2o, rdpo, rdso, rd1o, h, fileV, strs, h1, AV.sz]
theorem s_implTreeOk (t : List FileL) (ht : okFs t) : OK Go.Proofs.Tryd.prog 20 [filesV t] (fun _ _ r => r = .bool (treeOk t)) := by
  refine fn_ok k20 rfl ?_
  have hp := fun s h => s_implPathOk s h
  have htx := fun xs h => s18 xs h
  have hcf := fun i (hi : i ≤ t.length) (f : FileL) (hf : f.path.size ≤ 1000000) => s_conF (fun o => pathIn o.path f.path) 57 (fileV f) (t.take i) (by simp; have := ht.1; omega) fun x hx => s_treeOk1 x f (ht.2 x (List.mem_of_mem_take hx)).1 hf
  generalize OK Go.Proofs.Tryd.prog = L at *
  intro lo
  have hlen := ht.1
  simp -dsimp only [↓SD, SP, ↓reduceIte, Nat.reduceEqDiff, ini, frz, rdAo, rd3o, rd2o, rdpo, rd1o, fnv, intv, VOp.dst, getRo, solEo, solo, solo1, allsz, List.all_cons, List.all_nil, Bool.and_true, beq_self_eq_true, List.length_cons, List.length_nil, Nat.zero_add, srcv, Nat.le_refl, List.take_succ_cons, List.take_zero, and_self, if_true, Nat.reduceAdd, Nat.reduceLT, eq_self, c20, l_lv]
  refine loop_rule (fun m E H n => ∃ i : Nat, m + i = t.length ∧ E 0 = filesV t ∧ E 5 = filesV t ∧ E 6 = .int .i64 t.length ∧ E 7 = .int .i64 i ∧ ∀ j, j < i → ∀ f, t[j]? = some f → okI t j f = true)
    (fun e E H n => (e = .exit 0 ∧ E 0 = filesV t ∧ treeOk t = decide (t.length ≤ 8)) ∨ (e = .ret ∧ E 2 = .bool (treeOk t))) t.length ⟨0, rfl, rfl, rfl, rfl, rfl, fun j h => by omega⟩ ?_ ?_
  · rintro e E H n (⟨rfl, h0, h1⟩ | ⟨rfl, h2⟩)
    · simp -dsimp only [↓SD, SP, ↓reduceIte, Nat.reduceEqDiff, ini, frz, rdAo, rd3o, rd2o, rdpo, rd1o, fnv, intv, VOp.dst, getRo, solEo, solo, solo1, allsz, List.all_cons, List.all_nil, Bool.and_true, beq_self_eq_true, List.length_cons, List.length_nil, Nat.zero_add, srcv, Nat.le_refl, List.take_succ_cons, List.take_zero, and_self, if_true, Nat.reduceAdd, Nat.reduceLT, eq_self, h0, h1, l_lv, Int.ofNat_le, show (8 : Int) = ((8 : Nat) : Int) from rfl]
    · simp -dsimp only [↓SD, SP, ↓reduceIte, Nat.reduceEqDiff, ini, frz, rdAo, rd3o, rd2o, rdpo, rd1o, fnv, intv, VOp.dst, getRo, solEo, solo, solo1, allsz, List.all_cons, List.all_nil, Bool.and_true, beq_self_eq_true, List.length_cons, List.length_nil, Nat.zero_add, srcv, Nat.le_refl, List.take_succ_cons, List.take_zero, and_self, if_true, Nat.reduceAdd, Nat.reduceLT, eq_self, h2]
  · rintro m E H n Q K ⟨i, hm, h0, h5, h6, h7, hok⟩ hQ hK
    by_cases hi : i < t.length
    · have ho := ht.2 t[i] (List.getElem_mem hi)
      have hget : t[i]? = some t[i] := List.getElem?_eq_getElem hi
      have no : okI t i t[i] = false → ∀ E H n, E 2 = .bool false → Q .ret E H n := fun h E H n h2 => hQ _ _ _ _ (.inr ⟨rfl, by rw [h2]; unfold treeOk; rw [allI_no hget h]; rfl⟩)
      have hkk : okI t i t[i] = (pathOk t[i].path && (textOk t[i].text && (prevLt t i t[i] && !((t.take i).any fun o => pathIn o.path t[i].path)))) := rfl
      have hx := x_lv el_file t i hi
      generalize t[i] = f at *
      simp -dsimp only [↓SD, SP, ↓reduceIte, Nat.reduceEqDiff, ini, frz, rdAo, rd3o, rd2o, rdpo, rd1o, fnv, intv, VOp.dst, getRo, solEo, solo, solo1, allsz, List.all_cons, List.all_nil, Bool.and_true, beq_self_eq_true, List.length_cons, List.length_nil, Nat.zero_add, srcv, Nat.le_refl, List.take_succ_cons, List.take_zero, and_self, if_true, Nat.reduceAdd, Nat.reduceLT, eq_self, h0, h5, h6, h7, Int.ofNat_lt, hi, hx, ↓d_lv el_file, ↓r_any]
      refine bal_mk fun b hb => ?_
      simp -dsimp only [↓SD, SP, ↓reduceIte, Nat.reduceEqDiff, ini, frz, rdAo, rd3o, rd2o, rdpo, rd1o, fnv, intv, VOp.dst, getRo, solEo, solo, solo1, allsz, List.all_cons, List.all_nil, Bool.and_true, beq_self_eq_true, List.length_cons, List.length_nil, Nat.zero_add, srcv, Nat.le_refl, List.take_succ_cons, List.take_zero, and_self, if_true, Nat.reduceAdd, Nat.reduceLT, eq_self, fldAv, ↓ldv_f, ↓ldv_n, ↓stv_f, ↓stv_a, fldv, setf, bldv, small, Bool.true_and, List.getElem?_cons_zero, List.getElem?_cons_succ, List.set_cons_zero, List.set_cons_succ, Bool.false_eq_true, if_false, true_and, and_true, reduceCtorEq, false_implies, implies_true, forall_const, ↓stv_fl, fz_file, sz_file, ↓fv_f0, ↓fv_f1, ↓r_any]
      refine call_rule (hp _ ho.1) ?_
      rintro lo1 hi1 r - - rfl
      cases e1 : pathOk f.path
      · simp -dsimp only [↓SD, SP, ↓reduceIte, Nat.reduceEqDiff, ini, frz, rdAo, rd3o, rd2o, rdpo, rd1o, fnv, intv, VOp.dst, getRo, solEo, solo, solo1, allsz, List.all_cons, List.all_nil, Bool.and_true, beq_self_eq_true, List.length_cons, List.length_nil, Nat.zero_add, srcv, Nat.le_refl, List.take_succ_cons, List.take_zero, and_self, if_true, Nat.reduceAdd, Nat.reduceLT, eq_self, fldAv, ↓ldv_f, ↓ldv_n, ↓stv_f, ↓stv_a, fldv, setf, bldv, small, Bool.true_and, List.getElem?_cons_zero, List.getElem?_cons_succ, List.set_cons_zero, List.set_cons_succ, Bool.false_eq_true, if_false, true_and, and_true, reduceCtorEq, false_implies, implies_true, forall_const, ↓r_any]
        refine no (by rw [hkk, e1]; rfl) _ _ _ ?_
        simp -dsimp only [↓SD, SP, ↓reduceIte, Nat.reduceEqDiff, ini, frz, rdAo, rd3o, rd2o, rdpo, rd1o, fnv, intv, VOp.dst, getRo, solEo, solo, solo1, allsz, List.all_cons, List.all_nil, Bool.and_true, beq_self_eq_true, List.length_cons, List.length_nil, Nat.zero_add, srcv, Nat.le_refl, List.take_succ_cons, List.take_zero, and_self, if_true, Nat.reduceAdd, Nat.reduceLT, eq_self]
      simp -dsimp only [↓SD, SP, ↓reduceIte, Nat.reduceEqDiff, ini, frz, rdAo, rd3o, rd2o, rdpo, rd1o, fnv, intv, VOp.dst, getRo, solEo, solo, solo1, allsz, List.all_cons, List.all_nil, Bool.and_true, beq_self_eq_true, List.length_cons, List.length_nil, Nat.zero_add, srcv, Nat.le_refl, List.take_succ_cons, List.take_zero, and_self, if_true, Nat.reduceAdd, Nat.reduceLT, eq_self, fldAv, ↓ldv_f, ↓ldv_n, ↓stv_f, ↓stv_a, fldv, setf, bldv, small, Bool.true_and, List.getElem?_cons_zero, List.getElem?_cons_succ, List.set_cons_zero, List.set_cons_succ, Bool.false_eq_true, if_false, true_and, and_true, reduceCtorEq, false_implies, implies_true, forall_const, ↓fv_f0, ↓fv_f1, ↓rd_strs, ↓r_any]
      refine call_rule (htx _ ho.2) ?_
      rintro lo2 hi2 r - - rfl
      cases e2 : textOk f.text
      · simp -dsimp only [↓SD, SP, ↓reduceIte, Nat.reduceEqDiff, ini, frz, rdAo, rd3o, rd2o, rdpo, rd1o, fnv, intv, VOp.dst, getRo, solEo, solo, solo1, allsz, List.all_cons, List.all_nil, Bool.and_true, beq_self_eq_true, List.length_cons, List.length_nil, Nat.zero_add, srcv, Nat.le_refl, List.take_succ_cons, List.take_zero, and_self, if_true, Nat.reduceAdd, Nat.reduceLT, eq_self, fldAv, ↓ldv_f, ↓ldv_n, ↓stv_f, ↓stv_a, fldv, setf, bldv, small, Bool.true_and, List.getElem?_cons_zero, List.getElem?_cons_succ, List.set_cons_zero, List.set_cons_succ, Bool.false_eq_true, if_false, true_and, and_true, reduceCtorEq, false_implies, implies_true, forall_const, ↓r_any]
        refine no (by rw [hkk, e1, e2]; rfl) _ _ _ ?_
        simp -dsimp only [↓SD, SP, ↓reduceIte, Nat.reduceEqDiff, ini, frz, rdAo, rd3o, rd2o, rdpo, rd1o, fnv, intv, VOp.dst, getRo, solEo, solo, solo1, allsz, List.all_cons, List.all_nil, Bool.and_true, beq_self_eq_true, List.length_cons, List.length_nil, Nat.zero_add, srcv, Nat.le_refl, List.take_succ_cons, List.take_zero, and_self, if_true, Nat.reduceAdd, Nat.reduceLT, eq_self]
      have rc := fun (H : Hp) (h : H 4 = some ⟨b, 2, [fileV f], false, false, false⟩) => rd_capF H 4 b f 57 h
      have x1 := fun H => sl_filesTo H t i (by omega)
      have x2 := fun H => rd_slF H i t (by omega)
      by_cases hi0 : (0 : Int) < i
      · have hj : i - 1 < t.length := by omega
        have hprev : prevLt t i f = sLt t[i - 1].path f.path := by
          simp only [prevLt, List.getElem?_eq_getElem hj, Option.map_some, Option.getD_some, show ¬ i = 0 by omega, decide_false, Bool.false_or]
        have hx1 := x_lv el_file t (i - 1) hj
        cases e3 : sLt t[i - 1].path f.path
        · simp -dsimp only [↓SD, SP, ↓reduceIte, Nat.reduceEqDiff, ini, frz, rdAo, rd3o, rd2o, rdpo, rd1o, fnv, intv, VOp.dst, getRo, solEo, solo, solo1, allsz, List.all_cons, List.all_nil, Bool.and_true, beq_self_eq_true, List.length_cons, List.length_nil, Nat.zero_add, srcv, Nat.le_refl, List.take_succ_cons, List.take_zero, and_self, if_true, Nat.reduceAdd, Nat.reduceLT, eq_self, fa_o, ↓ldv_f, ↓ldv_n, ↓stv_f, ↓stv_a, fldv, setf, bldv, small, Bool.true_and, List.getElem?_cons_zero, List.getElem?_cons_succ, List.set_cons_zero, List.set_cons_succ, Bool.false_eq_true, if_false, true_and, and_true, reduceCtorEq, false_implies, implies_true, forall_const, h0, hi0, wrap64 ((i : Int) - 1) (by omega), show (i : Int) - 1 = ((i - 1 : Nat) : Int) by omega, wrap64 ((i - 1 : Nat) : Int) (by omega), hx1, fa_f0, ↓fv_f0, v_sgeq, e3, ↓r_any]
          refine no (by rw [hkk, e1, e2, hprev, e3]; rfl) _ _ _ ?_
          simp -dsimp only [↓SD, SP, ↓reduceIte, Nat.reduceEqDiff, ini, frz, rdAo, rd3o, rd2o, rdpo, rd1o, fnv, intv, VOp.dst, getRo, solEo, solo, solo1, allsz, List.all_cons, List.all_nil, Bool.and_true, beq_self_eq_true, List.length_cons, List.length_nil, Nat.zero_add, srcv, Nat.le_refl, List.take_succ_cons, List.take_zero, and_self, if_true, Nat.reduceAdd, Nat.reduceLT, eq_self]
        · simp -dsimp only [↓SD, SP, ↓reduceIte, Nat.reduceEqDiff, ini, frz, rdAo, rd3o, rd2o, rdpo, rd1o, fnv, intv, VOp.dst, getRo, solEo, solo, solo1, allsz, List.all_cons, List.all_nil, Bool.and_true, beq_self_eq_true, List.length_cons, List.length_nil, Nat.zero_add, srcv, Nat.le_refl, List.take_succ_cons, List.take_zero, and_self, if_true, Nat.reduceAdd, Nat.reduceLT, eq_self, fa_o, ↓ldv_f, ↓ldv_n, ↓stv_f, ↓stv_a, fldv, setf, bldv, small, Bool.true_and, List.getElem?_cons_zero, List.getElem?_cons_succ, List.set_cons_zero, List.set_cons_succ, Bool.false_eq_true, if_false, true_and, and_true, reduceCtorEq, false_implies, implies_true, forall_const, h0, h5, h7, hi0, wrap64 ((i : Int) - 1) (by omega), show (i : Int) - 1 = ((i - 1 : Nat) : Int) by omega, wrap64 ((i - 1 : Nat) : Int) (by omega), hx1, fa_f0, ↓fv_f0, v_sgeq, e3, ↓r_any, x1, ↓x2, mkfv, ↓rc]
          refine call_rule (hcf i (by omega) f ho.1) ?_
          rintro lo3 hi3 r p3 p4 rfl
          cases e4 : (t.take i).any fun o => pathIn o.path f.path
          · simp -dsimp only [↓SD, SP, ↓reduceIte, Nat.reduceEqDiff, ini, frz, rdAo, rd3o, rd2o, rdpo, rd1o, fnv, intv, VOp.dst, getRo, solEo, solo, solo1, allsz, List.all_cons, List.all_nil, Bool.and_true, beq_self_eq_true, List.length_cons, List.length_nil, Nat.zero_add, srcv, Nat.le_refl, List.take_succ_cons, List.take_zero, and_self, if_true, Nat.reduceAdd, Nat.reduceLT, eq_self, ↓r_any, h7, wrap64 ((i : Int) + 1) (by omega)]
            refine hK (m - 1) _ _ _ (by omega) ⟨i + 1, by omega, by first | (simp -dsimp only [↓SD, SP, ↓reduceIte, Nat.reduceEqDiff, ini, frz, rdAo, rd3o, rd2o, rdpo, rd1o, fnv, intv, VOp.dst, getRo, solEo, solo, solo1, allsz, List.all_cons, List.all_nil, Bool.and_true, beq_self_eq_true, List.length_cons, List.length_nil, Nat.zero_add, srcv, Nat.le_refl, List.take_succ_cons, List.take_zero, and_self, if_true, Nat.reduceAdd, Nat.reduceLT, eq_self, h0]; done) | (simp -dsimp only [↓SD, SP, ↓reduceIte, Nat.reduceEqDiff, ini, frz, rdAo, rd3o, rd2o, rdpo, rd1o, fnv, intv, VOp.dst, getRo, solEo, solo, solo1, allsz, List.all_cons, List.all_nil, Bool.and_true, beq_self_eq_true, List.length_cons, List.length_nil, Nat.zero_add, srcv, Nat.le_refl, List.take_succ_cons, List.take_zero, and_self, if_true, Nat.reduceAdd, Nat.reduceLT, eq_self, h0]; rfl) | rfl, by first | (simp -dsimp only [↓SD, SP, ↓reduceIte, Nat.reduceEqDiff, ini, frz, rdAo, rd3o, rd2o, rdpo, rd1o, fnv, intv, VOp.dst, getRo, solEo, solo, solo1, allsz, List.all_cons, List.all_nil, Bool.and_true, beq_self_eq_true, List.length_cons, List.length_nil, Nat.zero_add, srcv, Nat.le_refl, List.take_succ_cons, List.take_zero, and_self, if_true, Nat.reduceAdd, Nat.reduceLT, eq_self, h5]; done) | (simp -dsimp only [↓SD, SP, ↓reduceIte, Nat.reduceEqDiff, ini, frz, rdAo, rd3o, rd2o, rdpo, rd1o, fnv, intv, VOp.dst, getRo, solEo, solo, solo1, allsz, List.all_cons, List.all_nil, Bool.and_true, beq_self_eq_true, List.length_cons, List.length_nil, Nat.zero_add, srcv, Nat.le_refl, List.take_succ_cons, List.take_zero, and_self, if_true, Nat.reduceAdd, Nat.reduceLT, eq_self, h5]; rfl) | rfl, by first | (simp -dsimp only [↓SD, SP, ↓reduceIte, Nat.reduceEqDiff, ini, frz, rdAo, rd3o, rd2o, rdpo, rd1o, fnv, intv, VOp.dst, getRo, solEo, solo, solo1, allsz, List.all_cons, List.all_nil, Bool.and_true, beq_self_eq_true, List.length_cons, List.length_nil, Nat.zero_add, srcv, Nat.le_refl, List.take_succ_cons, List.take_zero, and_self, if_true, Nat.reduceAdd, Nat.reduceLT, eq_self, h6]; done) | (simp -dsimp only [↓SD, SP, ↓reduceIte, Nat.reduceEqDiff, ini, frz, rdAo, rd3o, rd2o, rdpo, rd1o, fnv, intv, VOp.dst, getRo, solEo, solo, solo1, allsz, List.all_cons, List.all_nil, Bool.and_true, beq_self_eq_true, List.length_cons, List.length_nil, Nat.zero_add, srcv, Nat.le_refl, List.take_succ_cons, List.take_zero, and_self, if_true, Nat.reduceAdd, Nat.reduceLT, eq_self, h6]; rfl) | rfl, by first | (simp -dsimp only [↓SD, SP, ↓reduceIte, Nat.reduceEqDiff, ini, frz, rdAo, rd3o, rd2o, rdpo, rd1o, fnv, intv, VOp.dst, getRo, solEo, solo, solo1, allsz, List.all_cons, List.all_nil, Bool.and_true, beq_self_eq_true, List.length_cons, List.length_nil, Nat.zero_add, srcv, Nat.le_refl, List.take_succ_cons, List.take_zero, and_self, if_true, Nat.reduceAdd, Nat.reduceLT, eq_self, Int.natCast_add, Int.natCast_one]; done) | (simp -dsimp only [↓SD, SP, ↓reduceIte, Nat.reduceEqDiff, ini, frz, rdAo, rd3o, rd2o, rdpo, rd1o, fnv, intv, VOp.dst, getRo, solEo, solo, solo1, allsz, List.all_cons, List.all_nil, Bool.and_true, beq_self_eq_true, List.length_cons, List.length_nil, Nat.zero_add, srcv, Nat.le_refl, List.take_succ_cons, List.take_zero, and_self, if_true, Nat.reduceAdd, Nat.reduceLT, eq_self, Int.natCast_add, Int.natCast_one]; rfl) | rfl, fun j hj g hg => ?_⟩
            rcases Nat.lt_or_ge j i with h' | h'
            · exact hok j h' g hg
            · obtain rfl : j = i := by omega
              rw [hget] at hg
              obtain rfl := Option.some.inj hg
              rw [hkk, e1, e2, hprev, e3, e4]
              rfl
          · simp -dsimp only [↓SD, SP, ↓reduceIte, Nat.reduceEqDiff, ini, frz, rdAo, rd3o, rd2o, rdpo, rd1o, fnv, intv, VOp.dst, getRo, solEo, solo, solo1, allsz, List.all_cons, List.all_nil, Bool.and_true, beq_self_eq_true, List.length_cons, List.length_nil, Nat.zero_add, srcv, Nat.le_refl, List.take_succ_cons, List.take_zero, and_self, if_true, Nat.reduceAdd, Nat.reduceLT, eq_self, ↓r_any]
            refine no (by rw [hkk, e1, e2, hprev, e3, e4]; rfl) _ _ _ ?_
            simp -dsimp only [↓SD, SP, ↓reduceIte, Nat.reduceEqDiff, ini, frz, rdAo, rd3o, rd2o, rdpo, rd1o, fnv, intv, VOp.dst, getRo, solEo, solo, solo1, allsz, List.all_cons, List.all_nil, Bool.and_true, beq_self_eq_true, List.length_cons, List.length_nil, Nat.zero_add, srcv, Nat.le_refl, List.take_succ_cons, List.take_zero, and_self, if_true, Nat.reduceAdd, Nat.reduceLT, eq_self]
      · have hprev : prevLt t i f = true := by
          simp only [prevLt, show i = 0 by omega, decide_true, Bool.true_or]
        simp -dsimp only [↓SD, SP, ↓reduceIte, Nat.reduceEqDiff, ini, frz, rdAo, rd3o, rd2o, rdpo, rd1o, fnv, intv, VOp.dst, getRo, solEo, solo, solo1, allsz, List.all_cons, List.all_nil, Bool.and_true, beq_self_eq_true, List.length_cons, List.length_nil, Nat.zero_add, srcv, Nat.le_refl, List.take_succ_cons, List.take_zero, and_self, if_true, Nat.reduceAdd, Nat.reduceLT, eq_self, fa_o, ↓ldv_f, ↓ldv_n, ↓stv_f, ↓stv_a, fldv, setf, bldv, small, Bool.true_and, List.getElem?_cons_zero, List.getElem?_cons_succ, List.set_cons_zero, List.set_cons_succ, Bool.false_eq_true, if_false, true_and, and_true, reduceCtorEq, false_implies, implies_true, forall_const, h0, h5, h7, hi0, ↓r_any, x1, ↓x2, mkfv, ↓rc]
        refine call_rule (hcf i (by omega) f ho.1) ?_
        rintro lo3 hi3 r p3 p4 rfl
        cases e4 : (t.take i).any fun o => pathIn o.path f.path
        · simp -dsimp only [↓SD, SP, ↓reduceIte, Nat.reduceEqDiff, ini, frz, rdAo, rd3o, rd2o, rdpo, rd1o, fnv, intv, VOp.dst, getRo, solEo, solo, solo1, allsz, List.all_cons, List.all_nil, Bool.and_true, beq_self_eq_true, List.length_cons, List.length_nil, Nat.zero_add, srcv, Nat.le_refl, List.take_succ_cons, List.take_zero, and_self, if_true, Nat.reduceAdd, Nat.reduceLT, eq_self, ↓r_any, h7, wrap64 ((i : Int) + 1) (by omega)]
          refine hK (m - 1) _ _ _ (by omega) ⟨i + 1, by omega, by first | (simp -dsimp only [↓SD, SP, ↓reduceIte, Nat.reduceEqDiff, ini, frz, rdAo, rd3o, rd2o, rdpo, rd1o, fnv, intv, VOp.dst, getRo, solEo, solo, solo1, allsz, List.all_cons, List.all_nil, Bool.and_true, beq_self_eq_true, List.length_cons, List.length_nil, Nat.zero_add, srcv, Nat.le_refl, List.take_succ_cons, List.take_zero, and_self, if_true, Nat.reduceAdd, Nat.reduceLT, eq_self, h0]; done) | (simp -dsimp only [↓SD, SP, ↓reduceIte, Nat.reduceEqDiff, ini, frz, rdAo, rd3o, rd2o, rdpo, rd1o, fnv, intv, VOp.dst, getRo, solEo, solo, solo1, allsz, List.all_cons, List.all_nil, Bool.and_true, beq_self_eq_true, List.length_cons, List.length_nil, Nat.zero_add, srcv, Nat.le_refl, List.take_succ_cons, List.take_zero, and_self, if_true, Nat.reduceAdd, Nat.reduceLT, eq_self, h0]; rfl) | rfl, by first | (simp -dsimp only [↓SD, SP, ↓reduceIte, Nat.reduceEqDiff, ini, frz, rdAo, rd3o, rd2o, rdpo, rd1o, fnv, intv, VOp.dst, getRo, solEo, solo, solo1, allsz, List.all_cons, List.all_nil, Bool.and_true, beq_self_eq_true, List.length_cons, List.length_nil, Nat.zero_add, srcv, Nat.le_refl, List.take_succ_cons, List.take_zero, and_self, if_true, Nat.reduceAdd, Nat.reduceLT, eq_self, h5]; done) | (simp -dsimp only [↓SD, SP, ↓reduceIte, Nat.reduceEqDiff, ini, frz, rdAo, rd3o, rd2o, rdpo, rd1o, fnv, intv, VOp.dst, getRo, solEo, solo, solo1, allsz, List.all_cons, List.all_nil, Bool.and_true, beq_self_eq_true, List.length_cons, List.length_nil, Nat.zero_add, srcv, Nat.le_refl, List.take_succ_cons, List.take_zero, and_self, if_true, Nat.reduceAdd, Nat.reduceLT, eq_self, h5]; rfl) | rfl, by first | (simp -dsimp only [↓SD, SP, ↓reduceIte, Nat.reduceEqDiff, ini, frz, rdAo, rd3o, rd2o, rdpo, rd1o, fnv, intv, VOp.dst, getRo, solEo, solo, solo1, allsz, List.all_cons, List.all_nil, Bool.and_true, beq_self_eq_true, List.length_cons, List.length_nil, Nat.zero_add, srcv, Nat.le_refl, List.take_succ_cons, List.take_zero, and_self, if_true, Nat.reduceAdd, Nat.reduceLT, eq_self, h6]; done) | (simp -dsimp only [↓SD, SP, ↓reduceIte, Nat.reduceEqDiff, ini, frz, rdAo, rd3o, rd2o, rdpo, rd1o, fnv, intv, VOp.dst, getRo, solEo, solo, solo1, allsz, List.all_cons, List.all_nil, Bool.and_true, beq_self_eq_true, List.length_cons, List.length_nil, Nat.zero_add, srcv, Nat.le_refl, List.take_succ_cons, List.take_zero, and_self, if_true, Nat.reduceAdd, Nat.reduceLT, eq_self, h6]; rfl) | rfl, by first | (simp -dsimp only [↓SD, SP, ↓reduceIte, Nat.reduceEqDiff, ini, frz, rdAo, rd3o, rd2o, rdpo, rd1o, fnv, intv, VOp.dst, getRo, solEo, solo, solo1, allsz, List.all_cons, List.all_nil, Bool.and_true, beq_self_eq_true, List.length_cons, List.length_nil, Nat.zero_add, srcv, Nat.le_refl, List.take_succ_cons, List.take_zero, and_self, if_true, Nat.reduceAdd, Nat.reduceLT, eq_self, Int.natCast_add, Int.natCast_one]; done) | (simp -dsimp only [↓SD, SP, ↓reduceIte, Nat.reduceEqDiff, ini, frz, rdAo, rd3o, rd2o, rdpo, rd1o, fnv, intv, VOp.dst, getRo, solEo, solo, solo1, allsz, List.all_cons, List.all_nil, Bool.and_true, beq_self_eq_true, List.length_cons, List.length_nil, Nat.zero_add, srcv, Nat.le_refl, List.take_succ_cons, List.take_zero, and_self, if_true, Nat.reduceAdd, Nat.reduceLT, eq_self, Int.natCast_add, Int.natCast_one]; rfl) | rfl, fun j hj g hg => ?_⟩
          rcases Nat.lt_or_ge j i with h' | h'
          · exact hok j h' g hg
          · obtain rfl : j = i := by omega
            rw [hget] at hg
            obtain rfl := Option.some.inj hg
            rw [hkk, e1, e2, hprev, e4]
            rfl
        · simp -dsimp only [↓SD, SP, ↓reduceIte, Nat.reduceEqDiff, ini, frz, rdAo, rd3o, rd2o, rdpo, rd1o, fnv, intv, VOp.dst, getRo, solEo, solo, solo1, allsz, List.all_cons, List.all_nil, Bool.and_true, beq_self_eq_true, List.length_cons, List.length_nil, Nat.zero_add, srcv, Nat.le_refl, List.take_succ_cons, List.take_zero, and_self, if_true, Nat.reduceAdd, Nat.reduceLT, eq_self, ↓r_any]
          refine no (by rw [hkk, e1, e2, hprev, e4]; rfl) _ _ _ ?_
          simp -dsimp only [↓SD, SP, ↓reduceIte, Nat.reduceEqDiff, ini, frz, rdAo, rd3o, rd2o, rdpo, rd1o, fnv, intv, VOp.dst, getRo, solEo, solo, solo1, allsz, List.all_cons, List.all_nil, Bool.and_true, beq_self_eq_true, List.length_cons, List.length_nil, Nat.zero_add, srcv, Nat.le_refl, List.take_succ_cons, List.take_zero, and_self, if_true, Nat.reduceAdd, Nat.reduceLT, eq_self]
    · simp -dsimp only [↓SD, SP, ↓reduceIte, Nat.reduceEqDiff, ini, frz, rdAo, rd3o, rd2o, rdpo, rd1o, fnv, intv, VOp.dst, getRo, solEo, solo, solo1, allsz, List.all_cons, List.all_nil, Bool.and_true, beq_self_eq_true, List.length_cons, List.length_nil, Nat.zero_add, srcv, Nat.le_refl, List.take_succ_cons, List.take_zero, and_self, if_true, Nat.reduceAdd, Nat.reduceLT, eq_self, h0, h5, h6, h7, Int.ofNat_lt, hi]
      exact hQ _ _ _ _ (.inl ⟨rfl, h0, by unfold treeOk; rw [allI_yes (fun j hj f hf => hok j (by omega) f hf), Bool.true_and]⟩)
theorem s_l4Ok (t : List FileL) (ht : okFs t) : OK Go.Proofs.Tryd.prog 52 [filesV t] (fun _ _ r => r = .bool (treeOk t)) := by
  refine fn_ok k52 rfl ?_
  have hp := fun s h => s_l4Path s h
  have htx := fun xs h => s53 xs h
  have hin := fun d p h h' => s_l4In d p h h'
  generalize OK Go.Proofs.Tryd.prog = L at *
  intro lo
  have hlen := ht.1
  rw [← treeOkS_eq]
  simp -dsimp only [↓SD, SP, ↓reduceIte, Nat.reduceEqDiff, ini, frz, rdAo, rd3o, rd2o, rdpo, rd1o, fnv, intv, VOp.dst, getRo, solEo, solo, solo1, allsz, List.all_cons, List.all_nil, Bool.and_true, beq_self_eq_true, List.length_cons, List.length_nil, Nat.zero_add, srcv, Nat.le_refl, List.take_succ_cons, List.take_zero, and_self, if_true, Nat.reduceAdd, Nat.reduceLT, eq_self, c52]
  refine loop_rule (fun m E H n => ∃ i : Nat, m + i = t.length ∧ E 0 = filesV t ∧ E 3 = .int .i64 i ∧ ∀ j, j < i → ∀ f, t[j]? = some f → okS t j f = true)
    (fun e E H n => (e = .exit 0 ∧ E 0 = filesV t ∧ treeOkS t = decide (t.length ≤ 8)) ∨ (e = .ret ∧ E 2 = .bool (treeOkS t))) t.length ⟨0, rfl, rfl, rfl, fun j h => by omega⟩ ?_ ?_
  · rintro e E H n (⟨rfl, h0, h1⟩ | ⟨rfl, h2⟩)
    · simp -dsimp only [↓SD, SP, ↓reduceIte, Nat.reduceEqDiff, ini, frz, rdAo, rd3o, rd2o, rdpo, rd1o, fnv, intv, VOp.dst, getRo, solEo, solo, solo1, allsz, List.all_cons, List.all_nil, Bool.and_true, beq_self_eq_true, List.length_cons, List.length_nil, Nat.zero_add, srcv, Nat.le_refl, List.take_succ_cons, List.take_zero, and_self, if_true, Nat.reduceAdd, Nat.reduceLT, eq_self, h0, h1, l_lv, Int.ofNat_le, show (8 : Int) = ((8 : Nat) : Int) from rfl]
    · simp -dsimp only [↓SD, SP, ↓reduceIte, Nat.reduceEqDiff, ini, frz, rdAo, rd3o, rd2o, rdpo, rd1o, fnv, intv, VOp.dst, getRo, solEo, solo, solo1, allsz, List.all_cons, List.all_nil, Bool.and_true, beq_self_eq_true, List.length_cons, List.length_nil, Nat.zero_add, srcv, Nat.le_refl, List.take_succ_cons, List.take_zero, and_self, if_true, Nat.reduceAdd, Nat.reduceLT, eq_self, h2]
  · rintro m E H n Q K ⟨i, hm, h0, h3, hok⟩ hQ hK
    by_cases hi : i < t.length
    · have ho := ht.2 t[i] (List.getElem_mem hi)
      have hget : t[i]? = some t[i] := List.getElem?_eq_getElem hi
      have no : okS t i t[i] = false → ∀ E H n, E 2 = .bool false → Q .ret E H n := fun h E H n h2 => hQ _ _ _ _ (.inr ⟨rfl, by rw [h2]; unfold treeOkS; rw [allI_no hget h]; rfl⟩)
      have hkk : okS t i t[i] = (pathOk t[i].path && (textOk t[i].text && (prevLt t i t[i] && !(t.any fun o => inB t[i].path o.path)))) := rfl
      have hx := x_lv el_file t i hi
      generalize t[i] = f at *
      simp -dsimp only [↓SD, SP, ↓reduceIte, Nat.reduceEqDiff, ini, frz, rdAo, rd3o, rd2o, rdpo, rd1o, fnv, intv, VOp.dst, getRo, solEo, solo, solo1, allsz, List.all_cons, List.all_nil, Bool.and_true, beq_self_eq_true, List.length_cons, List.length_nil, Nat.zero_add, srcv, Nat.le_refl, List.take_succ_cons, List.take_zero, and_self, if_true, Nat.reduceAdd, Nat.reduceLT, eq_self, h0, h3, l_lv, Int.ofNat_lt, hi, hx, fa_f0, ↓r_any]
      refine call_rule (hp _ ho.1) ?_
      rintro lo1 hi1 r - - rfl
      cases e1 : pathOk f.path
      · simp -dsimp only [↓SD, SP, ↓reduceIte, Nat.reduceEqDiff, ini, frz, rdAo, rd3o, rd2o, rdpo, rd1o, fnv, intv, VOp.dst, getRo, solEo, solo, solo1, allsz, List.all_cons, List.all_nil, Bool.and_true, beq_self_eq_true, List.length_cons, List.length_nil, Nat.zero_add, srcv, Nat.le_refl, List.take_succ_cons, List.take_zero, and_self, if_true, Nat.reduceAdd, Nat.reduceLT, eq_self, ↓r_any]
        refine no (by rw [hkk, e1]; rfl) _ _ _ ?_
        simp -dsimp only [↓SD, SP, ↓reduceIte, Nat.reduceEqDiff, ini, frz, rdAo, rd3o, rd2o, rdpo, rd1o, fnv, intv, VOp.dst, getRo, solEo, solo, solo1, allsz, List.all_cons, List.all_nil, Bool.and_true, beq_self_eq_true, List.length_cons, List.length_nil, Nat.zero_add, srcv, Nat.le_refl, List.take_succ_cons, List.take_zero, and_self, if_true, Nat.reduceAdd, Nat.reduceLT, eq_self]
      simp -dsimp only [↓SD, SP, ↓reduceIte, Nat.reduceEqDiff, ini, frz, rdAo, rd3o, rd2o, rdpo, rd1o, fnv, intv, VOp.dst, getRo, solEo, solo, solo1, allsz, List.all_cons, List.all_nil, Bool.and_true, beq_self_eq_true, List.length_cons, List.length_nil, Nat.zero_add, srcv, Nat.le_refl, List.take_succ_cons, List.take_zero, and_self, if_true, Nat.reduceAdd, Nat.reduceLT, eq_self, h0, h3, hx, fa_f1, ↓rd_strs, ↓r_any]
      refine call_rule (htx _ ho.2) ?_
      rintro lo2 hi2 r - - rfl
      cases e2 : textOk f.text
      · simp -dsimp only [↓SD, SP, ↓reduceIte, Nat.reduceEqDiff, ini, frz, rdAo, rd3o, rd2o, rdpo, rd1o, fnv, intv, VOp.dst, getRo, solEo, solo, solo1, allsz, List.all_cons, List.all_nil, Bool.and_true, beq_self_eq_true, List.length_cons, List.length_nil, Nat.zero_add, srcv, Nat.le_refl, List.take_succ_cons, List.take_zero, and_self, if_true, Nat.reduceAdd, Nat.reduceLT, eq_self, ↓r_any]
        refine no (by rw [hkk, e1, e2]; rfl) _ _ _ ?_
        simp -dsimp only [↓SD, SP, ↓reduceIte, Nat.reduceEqDiff, ini, frz, rdAo, rd3o, rd2o, rdpo, rd1o, fnv, intv, VOp.dst, getRo, solEo, solo, solo1, allsz, List.all_cons, List.all_nil, Bool.and_true, beq_self_eq_true, List.length_cons, List.length_nil, Nat.zero_add, srcv, Nat.le_refl, List.take_succ_cons, List.take_zero, and_self, if_true, Nat.reduceAdd, Nat.reduceLT, eq_self]
      by_cases hi0 : (0 : Int) < i
      · have hj : i - 1 < t.length := by omega
        have hprev : prevLt t i f = sLt t[i - 1].path f.path := by
          simp only [prevLt, List.getElem?_eq_getElem hj, Option.map_some, Option.getD_some, show ¬ i = 0 by omega, decide_false, Bool.false_or]
        have hx1 := x_lv el_file t (i - 1) hj
        cases e3 : sLt t[i - 1].path f.path
        · simp -dsimp only [↓SD, SP, ↓reduceIte, Nat.reduceEqDiff, ini, frz, rdAo, rd3o, rd2o, rdpo, rd1o, fnv, intv, VOp.dst, getRo, solEo, solo, solo1, allsz, List.all_cons, List.all_nil, Bool.and_true, beq_self_eq_true, List.length_cons, List.length_nil, Nat.zero_add, srcv, Nat.le_refl, List.take_succ_cons, List.take_zero, and_self, if_true, Nat.reduceAdd, Nat.reduceLT, eq_self, h0, h3, hi0, wrap64 ((i : Int) - 1) (by omega), show (i : Int) - 1 = ((i - 1 : Nat) : Int) by omega, wrap64 ((i - 1 : Nat) : Int) (by omega), hx, hx1, fa_f0, v_sleq, e3, ↓r_any]
          refine no (by rw [hkk, e1, e2, hprev, e3]; rfl) _ _ _ ?_
          simp -dsimp only [↓SD, SP, ↓reduceIte, Nat.reduceEqDiff, ini, frz, rdAo, rd3o, rd2o, rdpo, rd1o, fnv, intv, VOp.dst, getRo, solEo, solo, solo1, allsz, List.all_cons, List.all_nil, Bool.and_true, beq_self_eq_true, List.length_cons, List.length_nil, Nat.zero_add, srcv, Nat.le_refl, List.take_succ_cons, List.take_zero, and_self, if_true, Nat.reduceAdd, Nat.reduceLT, eq_self]
        · simp -dsimp only [↓SD, SP, ↓reduceIte, Nat.reduceEqDiff, ini, frz, rdAo, rd3o, rd2o, rdpo, rd1o, fnv, intv, VOp.dst, getRo, solEo, solo, solo1, allsz, List.all_cons, List.all_nil, Bool.and_true, beq_self_eq_true, List.length_cons, List.length_nil, Nat.zero_add, srcv, Nat.le_refl, List.take_succ_cons, List.take_zero, and_self, if_true, Nat.reduceAdd, Nat.reduceLT, eq_self, h0, h3, hi0, wrap64 ((i : Int) - 1) (by omega), show (i : Int) - 1 = ((i - 1 : Nat) : Int) by omega, wrap64 ((i - 1 : Nat) : Int) (by omega), hx, hx1, fa_f0, v_sleq, e3, ↓r_any]
          refine loop_rule (fun m E H n => ∃ k : Nat, m + k = t.length ∧ E 0 = filesV t ∧ E 3 = .int .i64 i ∧ E 4 = .int .i64 k ∧ ((t.take k).any fun o => inB f.path o.path) = false)
            (fun e E H n => (e = .exit 2 ∧ E 0 = filesV t ∧ E 3 = .int .i64 i ∧ (t.any fun o => inB f.path o.path) = false) ∨ (e = .ret ∧ E 2 = .bool false ∧ (t.any fun o => inB f.path o.path) = true)) t.length ⟨0, rfl, by first | (simp -dsimp only [↓SD, SP, ↓reduceIte, Nat.reduceEqDiff, ini, frz, rdAo, rd3o, rd2o, rdpo, rd1o, fnv, intv, VOp.dst, getRo, solEo, solo, solo1, allsz, List.all_cons, List.all_nil, Bool.and_true, beq_self_eq_true, List.length_cons, List.length_nil, Nat.zero_add, srcv, Nat.le_refl, List.take_succ_cons, List.take_zero, and_self, if_true, Nat.reduceAdd, Nat.reduceLT, eq_self, h0]; done) | (simp -dsimp only [↓SD, SP, ↓reduceIte, Nat.reduceEqDiff, ini, frz, rdAo, rd3o, rd2o, rdpo, rd1o, fnv, intv, VOp.dst, getRo, solEo, solo, solo1, allsz, List.all_cons, List.all_nil, Bool.and_true, beq_self_eq_true, List.length_cons, List.length_nil, Nat.zero_add, srcv, Nat.le_refl, List.take_succ_cons, List.take_zero, and_self, if_true, Nat.reduceAdd, Nat.reduceLT, eq_self, h0]; rfl) | rfl, by first | (simp -dsimp only [↓SD, SP, ↓reduceIte, Nat.reduceEqDiff, ini, frz, rdAo, rd3o, rd2o, rdpo, rd1o, fnv, intv, VOp.dst, getRo, solEo, solo, solo1, allsz, List.all_cons, List.all_nil, Bool.and_true, beq_self_eq_true, List.length_cons, List.length_nil, Nat.zero_add, srcv, Nat.le_refl, List.take_succ_cons, List.take_zero, and_self, if_true, Nat.reduceAdd, Nat.reduceLT, eq_self, h3]; done) | (simp -dsimp only [↓SD, SP, ↓reduceIte, Nat.reduceEqDiff, ini, frz, rdAo, rd3o, rd2o, rdpo, rd1o, fnv, intv, VOp.dst, getRo, solEo, solo, solo1, allsz, List.all_cons, List.all_nil, Bool.and_true, beq_self_eq_true, List.length_cons, List.length_nil, Nat.zero_add, srcv, Nat.le_refl, List.take_succ_cons, List.take_zero, and_self, if_true, Nat.reduceAdd, Nat.reduceLT, eq_self, h3]; rfl) | rfl, by first | (simp -dsimp only [↓SD, SP, ↓reduceIte, Nat.reduceEqDiff, ini, frz, rdAo, rd3o, rd2o, rdpo, rd1o, fnv, intv, VOp.dst, getRo, solEo, solo, solo1, allsz, List.all_cons, List.all_nil, Bool.and_true, beq_self_eq_true, List.length_cons, List.length_nil, Nat.zero_add, srcv, Nat.le_refl, List.take_succ_cons, List.take_zero, and_self, if_true, Nat.reduceAdd, Nat.reduceLT, eq_self]; done) | (simp -dsimp only [↓SD, SP, ↓reduceIte, Nat.reduceEqDiff, ini, frz, rdAo, rd3o, rd2o, rdpo, rd1o, fnv, intv, VOp.dst, getRo, solEo, solo, solo1, allsz, List.all_cons, List.all_nil, Bool.and_true, beq_self_eq_true, List.length_cons, List.length_nil, Nat.zero_add, srcv, Nat.le_refl, List.take_succ_cons, List.take_zero, and_self, if_true, Nat.reduceAdd, Nat.reduceLT, eq_self]; rfl) | rfl, rfl⟩ ?_ ?_
          · rintro e E H n (⟨rfl, h0, h3, ha⟩ | ⟨rfl, h2, ha⟩)
            · simp -dsimp only [↓SD, SP, ↓reduceIte, Nat.reduceEqDiff, ini, frz, rdAo, rd3o, rd2o, rdpo, rd1o, fnv, intv, VOp.dst, getRo, solEo, solo, solo1, allsz, List.all_cons, List.all_nil, Bool.and_true, beq_self_eq_true, List.length_cons, List.length_nil, Nat.zero_add, srcv, Nat.le_refl, List.take_succ_cons, List.take_zero, and_self, if_true, Nat.reduceAdd, Nat.reduceLT, eq_self, h3, wrap64 ((i : Int) + 1) (by omega)]
              refine hK (m - 1) _ _ _ (by omega) ⟨i + 1, by omega, by first | (simp -dsimp only [↓SD, SP, ↓reduceIte, Nat.reduceEqDiff, ini, frz, rdAo, rd3o, rd2o, rdpo, rd1o, fnv, intv, VOp.dst, getRo, solEo, solo, solo1, allsz, List.all_cons, List.all_nil, Bool.and_true, beq_self_eq_true, List.length_cons, List.length_nil, Nat.zero_add, srcv, Nat.le_refl, List.take_succ_cons, List.take_zero, and_self, if_true, Nat.reduceAdd, Nat.reduceLT, eq_self, h0]; done) | (simp -dsimp only [↓SD, SP, ↓reduceIte, Nat.reduceEqDiff, ini, frz, rdAo, rd3o, rd2o, rdpo, rd1o, fnv, intv, VOp.dst, getRo, solEo, solo, solo1, allsz, List.all_cons, List.all_nil, Bool.and_true, beq_self_eq_true, List.length_cons, List.length_nil, Nat.zero_add, srcv, Nat.le_refl, List.take_succ_cons, List.take_zero, and_self, if_true, Nat.reduceAdd, Nat.reduceLT, eq_self, h0]; rfl) | rfl, by first | (simp -dsimp only [↓SD, SP, ↓reduceIte, Nat.reduceEqDiff, ini, frz, rdAo, rd3o, rd2o, rdpo, rd1o, fnv, intv, VOp.dst, getRo, solEo, solo, solo1, allsz, List.all_cons, List.all_nil, Bool.and_true, beq_self_eq_true, List.length_cons, List.length_nil, Nat.zero_add, srcv, Nat.le_refl, List.take_succ_cons, List.take_zero, and_self, if_true, Nat.reduceAdd, Nat.reduceLT, eq_self, Int.natCast_add, Int.natCast_one]; done) | (simp -dsimp only [↓SD, SP, ↓reduceIte, Nat.reduceEqDiff, ini, frz, rdAo, rd3o, rd2o, rdpo, rd1o, fnv, intv, VOp.dst, getRo, solEo, solo, solo1, allsz, List.all_cons, List.all_nil, Bool.and_true, beq_self_eq_true, List.length_cons, List.length_nil, Nat.zero_add, srcv, Nat.le_refl, List.take_succ_cons, List.take_zero, and_self, if_true, Nat.reduceAdd, Nat.reduceLT, eq_self, Int.natCast_add, Int.natCast_one]; rfl) | rfl, fun j hj g hg => ?_⟩
              rcases Nat.lt_or_ge j i with h' | h'
              · exact hok j h' g hg
              · obtain rfl : j = i := by omega
                rw [hget] at hg
                obtain rfl := Option.some.inj hg
                rw [hkk, e1, e2, hprev, e3, ha]
                rfl
            · simp -dsimp only [↓SD, SP, ↓reduceIte, Nat.reduceEqDiff, ini, frz, rdAo, rd3o, rd2o, rdpo, rd1o, fnv, intv, VOp.dst, getRo, solEo, solo, solo1, allsz, List.all_cons, List.all_nil, Bool.and_true, beq_self_eq_true, List.length_cons, List.length_nil, Nat.zero_add, srcv, Nat.le_refl, List.take_succ_cons, List.take_zero, and_self, if_true, Nat.reduceAdd, Nat.reduceLT, eq_self]
              exact no (by rw [hkk, e1, e2, hprev, e3, ha]; rfl) _ _ _ h2
          · rintro m2 E H n Q2 K2 ⟨k, hm2, h0, h3, h4, hp2⟩ hQ2 hK2
            by_cases hk : k < t.length
            · simp -dsimp only [↓SD, SP, ↓reduceIte, Nat.reduceEqDiff, ini, frz, rdAo, rd3o, rd2o, rdpo, rd1o, fnv, intv, VOp.dst, getRo, solEo, solo, solo1, allsz, List.all_cons, List.all_nil, Bool.and_true, beq_self_eq_true, List.length_cons, List.length_nil, Nat.zero_add, srcv, Nat.le_refl, List.take_succ_cons, List.take_zero, and_self, if_true, Nat.reduceAdd, Nat.reduceLT, eq_self, h0, h3, h4, l_lv, Int.ofNat_lt, hk, hx, x_lv el_file _ _ hk, fa_f0, ↓r_any]
              refine call_rule (hin _ _ ho.1 (ht.2 t[k] (List.getElem_mem hk)).1) ?_
              rintro lo3 hi3 r - - rfl
              have hany : ((t.take (k + 1)).any fun o => inB f.path o.path) = inB f.path t[k].path := by
                rw [List.take_succ_eq_append_getElem hk, List.any_append, hp2]
                simp
              cases hb : inB f.path t[k].path
              · simp -dsimp only [↓SD, SP, ↓reduceIte, Nat.reduceEqDiff, ini, frz, rdAo, rd3o, rd2o, rdpo, rd1o, fnv, intv, VOp.dst, getRo, solEo, solo, solo1, allsz, List.all_cons, List.all_nil, Bool.and_true, beq_self_eq_true, List.length_cons, List.length_nil, Nat.zero_add, srcv, Nat.le_refl, List.take_succ_cons, List.take_zero, and_self, if_true, Nat.reduceAdd, Nat.reduceLT, eq_self, ↓r_any, h4, wrap64 ((k : Int) + 1) (by omega)]
                refine hK2 (m2 - 1) _ _ _ (by omega) ⟨k + 1, by omega, by first | (simp -dsimp only [↓SD, SP, ↓reduceIte, Nat.reduceEqDiff, ini, frz, rdAo, rd3o, rd2o, rdpo, rd1o, fnv, intv, VOp.dst, getRo, solEo, solo, solo1, allsz, List.all_cons, List.all_nil, Bool.and_true, beq_self_eq_true, List.length_cons, List.length_nil, Nat.zero_add, srcv, Nat.le_refl, List.take_succ_cons, List.take_zero, and_self, if_true, Nat.reduceAdd, Nat.reduceLT, eq_self, h0]; done) | (simp -dsimp only [↓SD, SP, ↓reduceIte, Nat.reduceEqDiff, ini, frz, rdAo, rd3o, rd2o, rdpo, rd1o, fnv, intv, VOp.dst, getRo, solEo, solo, solo1, allsz, List.all_cons, List.all_nil, Bool.and_true, beq_self_eq_true, List.length_cons, List.length_nil, Nat.zero_add, srcv, Nat.le_refl, List.take_succ_cons, List.take_zero, and_self, if_true, Nat.reduceAdd, Nat.reduceLT, eq_self, h0]; rfl) | rfl, by first | (simp -dsimp only [↓SD, SP, ↓reduceIte, Nat.reduceEqDiff, ini, frz, rdAo, rd3o, rd2o, rdpo, rd1o, fnv, intv, VOp.dst, getRo, solEo, solo, solo1, allsz, List.all_cons, List.all_nil, Bool.and_true, beq_self_eq_true, List.length_cons, List.length_nil, Nat.zero_add, srcv, Nat.le_refl, List.take_succ_cons, List.take_zero, and_self, if_true, Nat.reduceAdd, Nat.reduceLT, eq_self, h3]; done) | (simp -dsimp only [↓SD, SP, ↓reduceIte, Nat.reduceEqDiff, ini, frz, rdAo, rd3o, rd2o, rdpo, rd1o, fnv, intv, VOp.dst, getRo, solEo, solo, solo1, allsz, List.all_cons, List.all_nil, Bool.and_true, beq_self_eq_true, List.length_cons, List.length_nil, Nat.zero_add, srcv, Nat.le_refl, List.take_succ_cons, List.take_zero, and_self, if_true, Nat.reduceAdd, Nat.reduceLT, eq_self, h3]; rfl) | rfl, by first | (simp -dsimp only [↓SD, SP, ↓reduceIte, Nat.reduceEqDiff, ini, frz, rdAo, rd3o, rd2o, rdpo, rd1o, fnv, intv, VOp.dst, getRo, solEo, solo, solo1, allsz, List.all_cons, List.all_nil, Bool.and_true, beq_self_eq_true, List.length_cons, List.length_nil, Nat.zero_add, srcv, Nat.le_refl, List.take_succ_cons, List.take_zero, and_self, if_true, Nat.reduceAdd, Nat.reduceLT, eq_self, Int.natCast_add, Int.natCast_one]; done) | (simp -dsimp only [↓SD, SP, ↓reduceIte, Nat.reduceEqDiff, ini, frz, rdAo, rd3o, rd2o, rdpo, rd1o, fnv, intv, VOp.dst, getRo, solEo, solo, solo1, allsz, List.all_cons, List.all_nil, Bool.and_true, beq_self_eq_true, List.length_cons, List.length_nil, Nat.zero_add, srcv, Nat.le_refl, List.take_succ_cons, List.take_zero, and_self, if_true, Nat.reduceAdd, Nat.reduceLT, eq_self, Int.natCast_add, Int.natCast_one]; rfl) | rfl, by rw [hany, hb]⟩
              · simp -dsimp only [↓SD, SP, ↓reduceIte, Nat.reduceEqDiff, ini, frz, rdAo, rd3o, rd2o, rdpo, rd1o, fnv, intv, VOp.dst, getRo, solEo, solo, solo1, allsz, List.all_cons, List.all_nil, Bool.and_true, beq_self_eq_true, List.length_cons, List.length_nil, Nat.zero_add, srcv, Nat.le_refl, List.take_succ_cons, List.take_zero, and_self, if_true, Nat.reduceAdd, Nat.reduceLT, eq_self, ↓r_any]
                exact hQ2 _ _ _ _ (.inr ⟨rfl, by first | (simp -dsimp only [↓SD, SP, ↓reduceIte, Nat.reduceEqDiff, ini, frz, rdAo, rd3o, rd2o, rdpo, rd1o, fnv, intv, VOp.dst, getRo, solEo, solo, solo1, allsz, List.all_cons, List.all_nil, Bool.and_true, beq_self_eq_true, List.length_cons, List.length_nil, Nat.zero_add, srcv, Nat.le_refl, List.take_succ_cons, List.take_zero, and_self, if_true, Nat.reduceAdd, Nat.reduceLT, eq_self]; done) | (simp -dsimp only [↓SD, SP, ↓reduceIte, Nat.reduceEqDiff, ini, frz, rdAo, rd3o, rd2o, rdpo, rd1o, fnv, intv, VOp.dst, getRo, solEo, solo, solo1, allsz, List.all_cons, List.all_nil, Bool.and_true, beq_self_eq_true, List.length_cons, List.length_nil, Nat.zero_add, srcv, Nat.le_refl, List.take_succ_cons, List.take_zero, and_self, if_true, Nat.reduceAdd, Nat.reduceLT, eq_self]; rfl) | rfl, List.any_eq_true.2 ⟨t[k], List.getElem_mem hk, hb⟩⟩)
            · simp -dsimp only [↓SD, SP, ↓reduceIte, Nat.reduceEqDiff, ini, frz, rdAo, rd3o, rd2o, rdpo, rd1o, fnv, intv, VOp.dst, getRo, solEo, solo, solo1, allsz, List.all_cons, List.all_nil, Bool.and_true, beq_self_eq_true, List.length_cons, List.length_nil, Nat.zero_add, srcv, Nat.le_refl, List.take_succ_cons, List.take_zero, and_self, if_true, Nat.reduceAdd, Nat.reduceLT, eq_self, h0, h3, h4, l_lv, Int.ofNat_lt, hk]
              rw [List.take_of_length_le (by omega)] at hp2
              exact hQ2 _ _ _ _ (.inl ⟨rfl, by first | (simp -dsimp only [↓SD, SP, ↓reduceIte, Nat.reduceEqDiff, ini, frz, rdAo, rd3o, rd2o, rdpo, rd1o, fnv, intv, VOp.dst, getRo, solEo, solo, solo1, allsz, List.all_cons, List.all_nil, Bool.and_true, beq_self_eq_true, List.length_cons, List.length_nil, Nat.zero_add, srcv, Nat.le_refl, List.take_succ_cons, List.take_zero, and_self, if_true, Nat.reduceAdd, Nat.reduceLT, eq_self, h0]; done) | (simp -dsimp only [↓SD, SP, ↓reduceIte, Nat.reduceEqDiff, ini, frz, rdAo, rd3o, rd2o, rdpo, rd1o, fnv, intv, VOp.dst, getRo, solEo, solo, solo1, allsz, List.all_cons, List.all_nil, Bool.and_true, beq_self_eq_true, List.length_cons, List.length_nil, Nat.zero_add, srcv, Nat.le_refl, List.take_succ_cons, List.take_zero, and_self, if_true, Nat.reduceAdd, Nat.reduceLT, eq_self, h0]; rfl) | rfl, by first | (simp -dsimp only [↓SD, SP, ↓reduceIte, Nat.reduceEqDiff, ini, frz, rdAo, rd3o, rd2o, rdpo, rd1o, fnv, intv, VOp.dst, getRo, solEo, solo, solo1, allsz, List.all_cons, List.all_nil, Bool.and_true, beq_self_eq_true, List.length_cons, List.length_nil, Nat.zero_add, srcv, Nat.le_refl, List.take_succ_cons, List.take_zero, and_self, if_true, Nat.reduceAdd, Nat.reduceLT, eq_self, h3]; done) | (simp -dsimp only [↓SD, SP, ↓reduceIte, Nat.reduceEqDiff, ini, frz, rdAo, rd3o, rd2o, rdpo, rd1o, fnv, intv, VOp.dst, getRo, solEo, solo, solo1, allsz, List.all_cons, List.all_nil, Bool.and_true, beq_self_eq_true, List.length_cons, List.length_nil, Nat.zero_add, srcv, Nat.le_refl, List.take_succ_cons, List.take_zero, and_self, if_true, Nat.reduceAdd, Nat.reduceLT, eq_self, h3]; rfl) | rfl, hp2⟩)
      · have hprev : prevLt t i f = true := by
          simp only [prevLt, show i = 0 by omega, decide_true, Bool.true_or]
        simp -dsimp only [↓SD, SP, ↓reduceIte, Nat.reduceEqDiff, ini, frz, rdAo, rd3o, rd2o, rdpo, rd1o, fnv, intv, VOp.dst, getRo, solEo, solo, solo1, allsz, List.all_cons, List.all_nil, Bool.and_true, beq_self_eq_true, List.length_cons, List.length_nil, Nat.zero_add, srcv, Nat.le_refl, List.take_succ_cons, List.take_zero, and_self, if_true, Nat.reduceAdd, Nat.reduceLT, eq_self, h0, h3, hi0, ↓r_any]
        refine loop_rule (fun m E H n => ∃ k : Nat, m + k = t.length ∧ E 0 = filesV t ∧ E 3 = .int .i64 i ∧ E 4 = .int .i64 k ∧ ((t.take k).any fun o => inB f.path o.path) = false)
          (fun e E H n => (e = .exit 2 ∧ E 0 = filesV t ∧ E 3 = .int .i64 i ∧ (t.any fun o => inB f.path o.path) = false) ∨ (e = .ret ∧ E 2 = .bool false ∧ (t.any fun o => inB f.path o.path) = true)) t.length ⟨0, rfl, by first | (simp -dsimp only [↓SD, SP, ↓reduceIte, Nat.reduceEqDiff, ini, frz, rdAo, rd3o, rd2o, rdpo, rd1o, fnv, intv, VOp.dst, getRo, solEo, solo, solo1, allsz, List.all_cons, List.all_nil, Bool.and_true, beq_self_eq_true, List.length_cons, List.length_nil, Nat.zero_add, srcv, Nat.le_refl, List.take_succ_cons, List.take_zero, and_self, if_true, Nat.reduceAdd, Nat.reduceLT, eq_self, h0]; done) | (simp -dsimp only [↓SD, SP, ↓reduceIte, Nat.reduceEqDiff, ini, frz, rdAo, rd3o, rd2o, rdpo, rd1o, fnv, intv, VOp.dst, getRo, solEo, solo, solo1, allsz, List.all_cons, List.all_nil, Bool.and_true, beq_self_eq_true, List.length_cons, List.length_nil, Nat.zero_add, srcv, Nat.le_refl, List.take_succ_cons, List.take_zero, and_self, if_true, Nat.reduceAdd, Nat.reduceLT, eq_self, h0]; rfl) | rfl, by first | (simp -dsimp only [↓SD, SP, ↓reduceIte, Nat.reduceEqDiff, ini, frz, rdAo, rd3o, rd2o, rdpo, rd1o, fnv, intv, VOp.dst, getRo, solEo, solo, solo1, allsz, List.all_cons, List.all_nil, Bool.and_true, beq_self_eq_true, List.length_cons, List.length_nil, Nat.zero_add, srcv, Nat.le_refl, List.take_succ_cons, List.take_zero, and_self, if_true, Nat.reduceAdd, Nat.reduceLT, eq_self, h3]; done) | (simp -dsimp only [↓SD, SP, ↓reduceIte, Nat.reduceEqDiff, ini, frz, rdAo, rd3o, rd2o, rdpo, rd1o, fnv, intv, VOp.dst, getRo, solEo, solo, solo1, allsz, List.all_cons, List.all_nil, Bool.and_true, beq_self_eq_true, List.length_cons, List.length_nil, Nat.zero_add, srcv, Nat.le_refl, List.take_succ_cons, List.take_zero, and_self, if_true, Nat.reduceAdd, Nat.reduceLT, eq_self, h3]; rfl) | rfl, by first | (simp -dsimp only [↓SD, SP, ↓reduceIte, Nat.reduceEqDiff, ini, frz, rdAo, rd3o, rd2o, rdpo, rd1o, fnv, intv, VOp.dst, getRo, solEo, solo, solo1, allsz, List.all_cons, List.all_nil, Bool.and_true, beq_self_eq_true, List.length_cons, List.length_nil, Nat.zero_add, srcv, Nat.le_refl, List.take_succ_cons, List.take_zero, and_self, if_true, Nat.reduceAdd, Nat.reduceLT, eq_self]; done) | (simp -dsimp only [↓SD, SP, ↓reduceIte, Nat.reduceEqDiff, ini, frz, rdAo, rd3o, rd2o, rdpo, rd1o, fnv, intv, VOp.dst, getRo, solEo, solo, solo1, allsz, List.all_cons, List.all_nil, Bool.and_true, beq_self_eq_true, List.length_cons, List.length_nil, Nat.zero_add, srcv, Nat.le_refl, List.take_succ_cons, List.take_zero, and_self, if_true, Nat.reduceAdd, Nat.reduceLT, eq_self]; rfl) | rfl, rfl⟩ ?_ ?_
        · rintro e E H n (⟨rfl, h0, h3, ha⟩ | ⟨rfl, h2, ha⟩)
          · simp -dsimp only [↓SD, SP, ↓reduceIte, Nat.reduceEqDiff, ini, frz, rdAo, rd3o, rd2o, rdpo, rd1o, fnv, intv, VOp.dst, getRo, solEo, solo, solo1, allsz, List.all_cons, List.all_nil, Bool.and_true, beq_self_eq_true, List.length_cons, List.length_nil, Nat.zero_add, srcv, Nat.le_refl, List.take_succ_cons, List.take_zero, and_self, if_true, Nat.reduceAdd, Nat.reduceLT, eq_self, h3, wrap64 ((i : Int) + 1) (by omega)]
            refine hK (m - 1) _ _ _ (by omega) ⟨i + 1, by omega, by first | (simp -dsimp only [↓SD, SP, ↓reduceIte, Nat.reduceEqDiff, ini, frz, rdAo, rd3o, rd2o, rdpo, rd1o, fnv, intv, VOp.dst, getRo, solEo, solo, solo1, allsz, List.all_cons, List.all_nil, Bool.and_true, beq_self_eq_true, List.length_cons, List.length_nil, Nat.zero_add, srcv, Nat.le_refl, List.take_succ_cons, List.take_zero, and_self, if_true, Nat.reduceAdd, Nat.reduceLT, eq_self, h0]; done) | (simp -dsimp only [↓SD, SP, ↓reduceIte, Nat.reduceEqDiff, ini, frz, rdAo, rd3o, rd2o, rdpo, rd1o, fnv, intv, VOp.dst, getRo, solEo, solo, solo1, allsz, List.all_cons, List.all_nil, Bool.and_true, beq_self_eq_true, List.length_cons, List.length_nil, Nat.zero_add, srcv, Nat.le_refl, List.take_succ_cons, List.take_zero, and_self, if_true, Nat.reduceAdd, Nat.reduceLT, eq_self, h0]; rfl) | rfl, by first | (simp -dsimp only [↓SD, SP, ↓reduceIte, Nat.reduceEqDiff, ini, frz, rdAo, rd3o, rd2o, rdpo, rd1o, fnv, intv, VOp.dst, getRo, solEo, solo, solo1, allsz, List.all_cons, List.all_nil, Bool.and_true, beq_self_eq_true, List.length_cons, List.length_nil, Nat.zero_add, srcv, Nat.le_refl, List.take_succ_cons, List.take_zero, and_self, if_true, Nat.reduceAdd, Nat.reduceLT, eq_self, Int.natCast_add, Int.natCast_one]; done) | (simp -dsimp only [↓SD, SP, ↓reduceIte, Nat.reduceEqDiff, ini, frz, rdAo, rd3o, rd2o, rdpo, rd1o, fnv, intv, VOp.dst, getRo, solEo, solo, solo1, allsz, List.all_cons, List.all_nil, Bool.and_true, beq_self_eq_true, List.length_cons, List.length_nil, Nat.zero_add, srcv, Nat.le_refl, List.take_succ_cons, List.take_zero, and_self, if_true, Nat.reduceAdd, Nat.reduceLT, eq_self, Int.natCast_add, Int.natCast_one]; rfl) | rfl, fun j hj g hg => ?_⟩
            rcases Nat.lt_or_ge j i with h' | h'
            · exact hok j h' g hg
            · obtain rfl : j = i := by omega
              rw [hget] at hg
              obtain rfl := Option.some.inj hg
              rw [hkk, e1, e2, hprev, ha]
              rfl
          · simp -dsimp only [↓SD, SP, ↓reduceIte, Nat.reduceEqDiff, ini, frz, rdAo, rd3o, rd2o, rdpo, rd1o, fnv, intv, VOp.dst, getRo, solEo, solo, solo1, allsz, List.all_cons, List.all_nil, Bool.and_true, beq_self_eq_true, List.length_cons, List.length_nil, Nat.zero_add, srcv, Nat.le_refl, List.take_succ_cons, List.take_zero, and_self, if_true, Nat.reduceAdd, Nat.reduceLT, eq_self]
            exact no (by rw [hkk, e1, e2, hprev, ha]; rfl) _ _ _ h2
        · rintro m2 E H n Q2 K2 ⟨k, hm2, h0, h3, h4, hp2⟩ hQ2 hK2
          by_cases hk : k < t.length
          · simp -dsimp only [↓SD, SP, ↓reduceIte, Nat.reduceEqDiff, ini, frz, rdAo, rd3o, rd2o, rdpo, rd1o, fnv, intv, VOp.dst, getRo, solEo, solo, solo1, allsz, List.all_cons, List.all_nil, Bool.and_true, beq_self_eq_true, List.length_cons, List.length_nil, Nat.zero_add, srcv, Nat.le_refl, List.take_succ_cons, List.take_zero, and_self, if_true, Nat.reduceAdd, Nat.reduceLT, eq_self, h0, h3, h4, l_lv, Int.ofNat_lt, hk, hx, x_lv el_file _ _ hk, fa_f0, ↓r_any]
            refine call_rule (hin _ _ ho.1 (ht.2 t[k] (List.getElem_mem hk)).1) ?_
            rintro lo3 hi3 r - - rfl
            have hany : ((t.take (k + 1)).any fun o => inB f.path o.path) = inB f.path t[k].path := by
              rw [List.take_succ_eq_append_getElem hk, List.any_append, hp2]
              simp
            cases hb : inB f.path t[k].path
            · simp -dsimp only [↓SD, SP, ↓reduceIte, Nat.reduceEqDiff, ini, frz, rdAo, rd3o, rd2o, rdpo, rd1o, fnv, intv, VOp.dst, getRo, solEo, solo, solo1, allsz, List.all_cons, List.all_nil, Bool.and_true, beq_self_eq_true, List.length_cons, List.length_nil, Nat.zero_add, srcv, Nat.le_refl, List.take_succ_cons, List.take_zero, and_self, if_true, Nat.reduceAdd, Nat.reduceLT, eq_self, ↓r_any, h4, wrap64 ((k : Int) + 1) (by omega)]
              refine hK2 (m2 - 1) _ _ _ (by omega) ⟨k + 1, by omega, by first | (simp -dsimp only [↓SD, SP, ↓reduceIte, Nat.reduceEqDiff, ini, frz, rdAo, rd3o, rd2o, rdpo, rd1o, fnv, intv, VOp.dst, getRo, solEo, solo, solo1, allsz, List.all_cons, List.all_nil, Bool.and_true, beq_self_eq_true, List.length_cons, List.length_nil, Nat.zero_add, srcv, Nat.le_refl, List.take_succ_cons, List.take_zero, and_self, if_true, Nat.reduceAdd, Nat.reduceLT, eq_self, h0]; done) | (simp -dsimp only [↓SD, SP, ↓reduceIte, Nat.reduceEqDiff, ini, frz, rdAo, rd3o, rd2o, rdpo, rd1o, fnv, intv, VOp.dst, getRo, solEo, solo, solo1, allsz, List.all_cons, List.all_nil, Bool.and_true, beq_self_eq_true, List.length_cons, List.length_nil, Nat.zero_add, srcv, Nat.le_refl, List.take_succ_cons, List.take_zero, and_self, if_true, Nat.reduceAdd, Nat.reduceLT, eq_self, h0]; rfl) | rfl, by first | (simp -dsimp only [↓SD, SP, ↓reduceIte, Nat.reduceEqDiff, ini, frz, rdAo, rd3o, rd2o, rdpo, rd1o, fnv, intv, VOp.dst, getRo, solEo, solo, solo1, allsz, List.all_cons, List.all_nil, Bool.and_true, beq_self_eq_true, List.length_cons, List.length_nil, Nat.zero_add, srcv, Nat.le_refl, List.take_succ_cons, List.take_zero, and_self, if_true, Nat.reduceAdd, Nat.reduceLT, eq_self, h3]; done) | (simp -dsimp only [↓SD, SP, ↓reduceIte, Nat.reduceEqDiff, ini, frz, rdAo, rd3o, rd2o, rdpo, rd1o, fnv, intv, VOp.dst, getRo, solEo, solo, solo1, allsz, List.all_cons, List.all_nil, Bool.and_true, beq_self_eq_true, List.length_cons, List.length_nil, Nat.zero_add, srcv, Nat.le_refl, List.take_succ_cons, List.take_zero, and_self, if_true, Nat.reduceAdd, Nat.reduceLT, eq_self, h3]; rfl) | rfl, by first | (simp -dsimp only [↓SD, SP, ↓reduceIte, Nat.reduceEqDiff, ini, frz, rdAo, rd3o, rd2o, rdpo, rd1o, fnv, intv, VOp.dst, getRo, solEo, solo, solo1, allsz, List.all_cons, List.all_nil, Bool.and_true, beq_self_eq_true, List.length_cons, List.length_nil, Nat.zero_add, srcv, Nat.le_refl, List.take_succ_cons, List.take_zero, and_self, if_true, Nat.reduceAdd, Nat.reduceLT, eq_self, Int.natCast_add, Int.natCast_one]; done) | (simp -dsimp only [↓SD, SP, ↓reduceIte, Nat.reduceEqDiff, ini, frz, rdAo, rd3o, rd2o, rdpo, rd1o, fnv, intv, VOp.dst, getRo, solEo, solo, solo1, allsz, List.all_cons, List.all_nil, Bool.and_true, beq_self_eq_true, List.length_cons, List.length_nil, Nat.zero_add, srcv, Nat.le_refl, List.take_succ_cons, List.take_zero, and_self, if_true, Nat.reduceAdd, Nat.reduceLT, eq_self, Int.natCast_add, Int.natCast_one]; rfl) | rfl, by rw [hany, hb]⟩
            · simp -dsimp only [↓SD, SP, ↓reduceIte, Nat.reduceEqDiff, ini, frz, rdAo, rd3o, rd2o, rdpo, rd1o, fnv, intv, VOp.dst, getRo, solEo, solo, solo1, allsz, List.all_cons, List.all_nil, Bool.and_true, beq_self_eq_true, List.length_cons, List.length_nil, Nat.zero_add, srcv, Nat.le_refl, List.take_succ_cons, List.take_zero, and_self, if_true, Nat.reduceAdd, Nat.reduceLT, eq_self, ↓r_any]
              exact hQ2 _ _ _ _ (.inr ⟨rfl, by first | (simp -dsimp only [↓SD, SP, ↓reduceIte, Nat.reduceEqDiff, ini, frz, rdAo, rd3o, rd2o, rdpo, rd1o, fnv, intv, VOp.dst, getRo, solEo, solo, solo1, allsz, List.all_cons, List.all_nil, Bool.and_true, beq_self_eq_true, List.length_cons, List.length_nil, Nat.zero_add, srcv, Nat.le_refl, List.take_succ_cons, List.take_zero, and_self, if_true, Nat.reduceAdd, Nat.reduceLT, eq_self]; done) | (simp -dsimp only [↓SD, SP, ↓reduceIte, Nat.reduceEqDiff, ini, frz, rdAo, rd3o, rd2o, rdpo, rd1o, fnv, intv, VOp.dst, getRo, solEo, solo, solo1, allsz, List.all_cons, List.all_nil, Bool.and_true, beq_self_eq_true, List.length_cons, List.length_nil, Nat.zero_add, srcv, Nat.le_refl, List.take_succ_cons, List.take_zero, and_self, if_true, Nat.reduceAdd, Nat.reduceLT, eq_self]; rfl) | rfl, List.any_eq_true.2 ⟨t[k], List.getElem_mem hk, hb⟩⟩)
          · simp -dsimp only [↓SD, SP, ↓reduceIte, Nat.reduceEqDiff, ini, frz, rdAo, rd3o, rd2o, rdpo, rd1o, fnv, intv, VOp.dst, getRo, solEo, solo, solo1, allsz, List.all_cons, List.all_nil, Bool.and_true, beq_self_eq_true, List.length_cons, List.length_nil, Nat.zero_add, srcv, Nat.le_refl, List.take_succ_cons, List.take_zero, and_self, if_true, Nat.reduceAdd, Nat.reduceLT, eq_self, h0, h3, h4, l_lv, Int.ofNat_lt, hk]
            rw [List.take_of_length_le (by omega)] at hp2
            exact hQ2 _ _ _ _ (.inl ⟨rfl, by first | (simp -dsimp only [↓SD, SP, ↓reduceIte, Nat.reduceEqDiff, ini, frz, rdAo, rd3o, rd2o, rdpo, rd1o, fnv, intv, VOp.dst, getRo, solEo, solo, solo1, allsz, List.all_cons, List.all_nil, Bool.and_true, beq_self_eq_true, List.length_cons, List.length_nil, Nat.zero_add, srcv, Nat.le_refl, List.take_succ_cons, List.take_zero, and_self, if_true, Nat.reduceAdd, Nat.reduceLT, eq_self, h0]; done) | (simp -dsimp only [↓SD, SP, ↓reduceIte, Nat.reduceEqDiff, ini, frz, rdAo, rd3o, rd2o, rdpo, rd1o, fnv, intv, VOp.dst, getRo, solEo, solo, solo1, allsz, List.all_cons, List.all_nil, Bool.and_true, beq_self_eq_true, List.length_cons, List.length_nil, Nat.zero_add, srcv, Nat.le_refl, List.take_succ_cons, List.take_zero, and_self, if_true, Nat.reduceAdd, Nat.reduceLT, eq_self, h0]; rfl) | rfl, by first | (simp -dsimp only [↓SD, SP, ↓reduceIte, Nat.reduceEqDiff, ini, frz, rdAo, rd3o, rd2o, rdpo, rd1o, fnv, intv, VOp.dst, getRo, solEo, solo, solo1, allsz, List.all_cons, List.all_nil, Bool.and_true, beq_self_eq_true, List.length_cons, List.length_nil, Nat.zero_add, srcv, Nat.le_refl, List.take_succ_cons, List.take_zero, and_self, if_true, Nat.reduceAdd, Nat.reduceLT, eq_self, h3]; done) | (simp -dsimp only [↓SD, SP, ↓reduceIte, Nat.reduceEqDiff, ini, frz, rdAo, rd3o, rd2o, rdpo, rd1o, fnv, intv, VOp.dst, getRo, solEo, solo, solo1, allsz, List.all_cons, List.all_nil, Bool.and_true, beq_self_eq_true, List.length_cons, List.length_nil, Nat.zero_add, srcv, Nat.le_refl, List.take_succ_cons, List.take_zero, and_self, if_true, Nat.reduceAdd, Nat.reduceLT, eq_self, h3]; rfl) | rfl, hp2⟩)
    · simp -dsimp only [↓SD, SP, ↓reduceIte, Nat.reduceEqDiff, ini, frz, rdAo, rd3o, rd2o, rdpo, rd1o, fnv, intv, VOp.dst, getRo, solEo, solo, solo1, allsz, List.all_cons, List.all_nil, Bool.and_true, beq_self_eq_true, List.length_cons, List.length_nil, Nat.zero_add, srcv, Nat.le_refl, List.take_succ_cons, List.take_zero, and_self, if_true, Nat.reduceAdd, Nat.reduceLT, eq_self, h0, h3, l_lv, Int.ofNat_lt, hi]
      exact hQ _ _ _ _ (.inl ⟨rfl, h0, by unfold treeOkS; rw [allI_yes (fun j hj f hf => hok j (by omega) f hf), Bool.true_and]⟩)
theorem s_specTreeOk (t : List FileL) (ht : okFs t) : OK Go.Proofs.Tryd.prog 18 [filesV t] (fun _ _ r => r = .bool (treeOk t)) := by
  refine fn_ok k18 rfl ?_
  have h1 := s_l4Ok t ht
  generalize OK Go.Proofs.Tryd.prog = L at *
  intro lo
  simp -dsimp only [↓SD, SP, ↓reduceIte, Nat.reduceEqDiff, ini, frz, rdAo, rd3o, rd2o, rdpo, rd1o, fnv, intv, VOp.dst, getRo, solEo, solo, solo1, allsz, List.all_cons, List.all_nil, Bool.and_true, beq_self_eq_true, List.length_cons, List.length_nil, Nat.zero_add, srcv, Nat.le_refl, List.take_succ_cons, List.take_zero, and_self, if_true, Nat.reduceAdd, Nat.reduceLT, eq_self, c18, ↓rd_lv, ↓r_any]
  refine call_rule h1 ?_
  rintro lo1 hi1 r - - rfl
  simp -dsimp only [↓SD, SP, ↓reduceIte, Nat.reduceEqDiff, ini, frz, rdAo, rd3o, rd2o, rdpo, rd1o, fnv, intv, VOp.dst, getRo, solEo, solo, solo1, allsz, List.all_cons, List.all_nil, Bool.and_true, beq_self_eq_true, List.length_cons, List.length_nil, Nat.zero_add, srcv, Nat.le_refl, List.take_succ_cons, List.take_zero, and_self, if_true, Nat.reduceAdd, Nat.reduceLT, eq_self]
end Go.AVM

/- Marks of lists of files. -/
set_option linter.unusedSimpArgs false
set_option linter.unusedVariables false
namespace Go.AVM
structure FRow where
  a : ByteArray
  l1 : AV
def FRow.v (r : FRow) : AV := .agg [.str r.a, r.l1]
def FRow.o (r : FRow) : AV := .agg [.str r.a, ow r.l1]
def FRow.tg (r : FRow) : List Nat := tags r.l1
def FRow.ok (r : FRow) : Prop := SlOk r.l1 ∧ lenV r.l1 ≤ 1000000
/-- the number that row i is marked with -/
def fk (k : Nat) : List FRow → Nat
  | [] => k
  | r :: rs => fk (k + 1 + lenV r.l1) rs
theorem fk_snoc (k : Nat) (rs : List FRow) (r : FRow) : fk k (rs ++ [r]) = fk k rs + 1 + lenV r.l1 := by
  induction rs generalizing k with
  | nil => rfl
  | cons q rs ih => simp [fk, ih]
theorem fk_le (k : Nat) (rs : List FRow) (h : ∀ r ∈ rs, r.ok) : k ≤ fk k rs ∧ fk k rs ≤ k + rs.length * 1000001 := by
  induction rs generalizing k with
  | nil => exact ⟨Nat.le_refl _, by simp [fk]⟩
  | cons q rs ih =>
    obtain ⟨_, h1⟩ := h q List.mem_cons_self
    obtain ⟨h3, h4⟩ := ih (k + 1 + lenV q.l1) fun r hr => h r (List.mem_cons_of_mem _ hr)
    simp only [fk, List.length_cons]
    omega
/-- the rows as they are once marked -/
def fmk (k : Nat) : List FRow → List AV
  | [] => []
  | r :: rs => .agg [.str (mtext k), ow r.l1] :: fmk (k + 1 + lenV r.l1) rs
theorem fmk_len (k : Nat) (rs : List FRow) : (fmk k rs).length = rs.length := by
  induction rs generalizing k with
  | nil => rfl
  | cons q rs ih => simp [fmk, ih]
theorem fmk_snoc (k : Nat) (rs : List FRow) (r : FRow) : fmk k (rs ++ [r]) = fmk k rs ++ [.agg [.str (mtext (fk k rs)), ow r.l1]] := by
  induction rs generalizing k with
  | nil => rfl
  | cons q rs ih => simp [fmk, fk, ih]
/-- what the lists in the rows hold, once marked -/
def FHeld (H : Hp) (k : Nat) : List FRow → Prop
  | [] => True
  | r :: rs => SHeld H (k + 1) r.l1 ∧ FHeld H (k + 1 + lenV r.l1) rs
theorem FHeld.snoc {H : Hp} {k : Nat} {rs : List FRow} {r : FRow} (h : FHeld H k rs) (h1 : SHeld H (fk k rs + 1) r.l1) : FHeld H k (rs ++ [r]) := by
  induction rs generalizing k with
  | nil => exact ⟨h1, trivial⟩
  | cons q rs ih => exact ⟨h.1, ih h.2 h1⟩
theorem FHeld.frame {H H' : Hp} {k : Nat} {rs : List FRow} (h : FHeld H k rs) (hf : ∀ r ∈ rs, ∀ q ∈ r.tg, H' q = H q) : FHeld H' k rs := by
  induction rs generalizing k with
  | nil => trivial
  | cons r rs ih =>
    have := hf r List.mem_cons_self
    exact ⟨h.1.frame fun q hq => this q hq, ih h.2 fun r hr => hf r (List.mem_cons_of_mem _ hr)⟩
theorem FHeld.get {H : Hp} {k : Nat} {rs rest : List FRow} {r : FRow} (h : FHeld H k (rs ++ r :: rest)) : SHeld H (fk k rs + 1) r.l1 := by
  induction rs generalizing k with
  | nil => exact h.1
  | cons q rs ih => exact ih h.2
theorem s_markFileS (g n k : Nat) (rows : List FRow) (H0 : Hp) (hn : n ≤ rows.length) (hn2 : n ≤ 1000000) (hok : ∀ r ∈ rows, r.ok) (hnd : (g :: rows.flatMap FRow.tg).Nodup) (hH : H0 g = some ⟨g, 2, rows.map FRow.o, false, false, false⟩)
    (ho : ∀ r ∈ rows, SOrig H0 r.l1) (hfz : NoFz H0) (h0 : 0 < k) (hk1 : k ≤ 1000000000000000000) :
    OKM Go.Proofs.Tryd.prog 25 [.own g g 2 n, .int .i64 k] H0 (fun _ _ r H' => r = .int .i64 (fk k (rows.take n) : Nat) ∧ NoFz H' ∧ FHeld H' k (rows.take n) ∧ ∃ rest, H' g = some ⟨g, 2, fmk k (rows.take n) ++ rest, false, false, false⟩) := by
  refine fn_okM k25 rfl ?_
  have hms := mark_sl
  have ht := fun k h0 hk => s_markText k h0 hk
  generalize OKM Go.Proofs.Tryd.prog = M at *
  generalize OK Go.Proofs.Tryd.prog = L at *
  intro lo hlo
  simp -dsimp only [↓SD, SP, ↓reduceIte, Nat.reduceEqDiff, ini, frz, rdAo, rd3o, rd2o, rdpo, rd1o, fnv, intv, VOp.dst, getRo, solEo, solo, solo1, allsz, List.all_cons, List.all_nil, Bool.and_true, beq_self_eq_true, List.length_cons, List.length_nil, Nat.zero_add, srcv, Nat.le_refl, List.take_succ_cons, List.take_zero, and_self, if_true, Nat.reduceAdd, Nat.reduceLT, eq_self, c25]
  refine loop_rule (fun m E H _ => ∃ i : Nat, m + i = n ∧ E 0 = .own g g 2 n ∧ E 1 = .int .i64 (fk k (rows.take i) : Nat) ∧ E 5 = .int .i64 i ∧ NoFz H ∧ H g = some ⟨g, 2, fmk k (rows.take i) ++ (rows.map FRow.o).drop i, false, false, false⟩ ∧ FHeld H k (rows.take i) ∧ ∀ r ∈ rows.drop i, SOrig H r.l1)
    (fun e E H _ => e = .exit 0 ∧ E 1 = .int .i64 (fk k (rows.take n) : Nat) ∧ NoFz H ∧ FHeld H k (rows.take n) ∧ ∃ rest, H g = some ⟨g, 2, fmk k (rows.take n) ++ rest, false, false, false⟩) n ⟨0, rfl, rfl, rfl, rfl, hfz, by simpa [fmk] using hH, trivial, by simpa using ho⟩ ?_ ?_
  · rintro e E H n' ⟨rfl, h1, h2, h3, h4⟩
    simp -dsimp only [↓SD, SP, ↓reduceIte, Nat.reduceEqDiff, ini, frz, rdAo, rd3o, rd2o, rdpo, rd1o, fnv, intv, VOp.dst, getRo, solEo, solo, solo1, allsz, List.all_cons, List.all_nil, Bool.and_true, beq_self_eq_true, List.length_cons, List.length_nil, Nat.zero_add, srcv, Nat.le_refl, List.take_succ_cons, List.take_zero, and_self, if_true, Nat.reduceAdd, Nat.reduceLT, eq_self, h1, noTup]
    exact ⟨trivial, h2, h3, h4⟩
  · rintro m E H n' Q K ⟨i, hm, h0', h1, h5, hf, hHg, hheld, horig⟩ hQ hK
    by_cases hi : i < n
    · have hir : i < rows.length := by omega
      have hok' := hok rows[i] (List.getElem_mem hir)
      obtain ⟨o1, n1⟩ := hok'
      obtain ⟨kb1, kb2⟩ := fk_le k (rows.take i) fun r hr => hok r (List.mem_of_mem_take hr)
      have hti : (rows.take i).length = i := by simp; omega
      rw [hti] at kb2
      have htk : rows.take (i + 1) = rows.take i ++ [rows[i]] := List.take_succ_eq_append_getElem hir
      have hdr : rows.drop i = rows[i] :: rows.drop (i + 1) := List.drop_eq_getElem_cons hir
      have hml : (fmk k (rows.take i)).length = i := by rw [fmk_len, hti]
      have hget : (fmk k (rows.take i) ++ (rows.map FRow.o).drop i)[i]? = some rows[i].o := by
        rw [List.getElem?_append_right (by omega), hml, Nat.sub_self, List.getElem?_drop]
        simp [hir]
      have hst := st_fld (j := 0) (v := .str (mtext (fk k (rows.take i)))) hHg hget rfl (by decide) ⟨rfl, rfl⟩
      have hset : (fmk k (rows.take i) ++ (rows.map FRow.o).drop i).set i (.agg ([AV.str rows[i].a, ow rows[i].l1].set 0 (.str (mtext (fk k (rows.take i)))))) = fmk k (rows.take (i + 1)) ++ (rows.map FRow.o).drop (i + 1) := by
        rw [htk, fmk_snoc, List.set_append_right _ _ (by omega), hml, Nat.sub_self, List.drop_eq_getElem_cons (by simpa using hir), List.set_cons_zero, List.append_assoc]
        rfl
      rw [hset] at hst
      -- the blocks are all different
      have hall : rows.flatMap FRow.tg = (rows.take i).flatMap FRow.tg ++ (rows[i].tg ++ (rows.drop (i + 1)).flatMap FRow.tg) := by
        calc rows.flatMap FRow.tg = (rows.take i ++ rows.drop i).flatMap FRow.tg := by rw [List.take_append_drop]
          _ = _ := by rw [List.flatMap_append, hdr, List.flatMap_cons]
      rw [hall] at hnd
      obtain ⟨hng, hnd'⟩ := List.nodup_cons.1 hnd
      obtain ⟨hd1, hd2, hd3⟩ := List.nodup_append.1 hnd'
      obtain ⟨hd4, hd5, hd6⟩ := List.nodup_append.1 hd2
      have s1 := horig rows[i] (by rw [hdr]; exact List.mem_cons_self)
      have hg1 : g ∉ tags rows[i].l1 := fun h => hng (List.mem_append_right _ (List.mem_append_left _ h))
      have hl1 : (ow rows[i].l1).isAgg = false := o1.fld.1
      obtain ⟨H1, hH1⟩ : ∃ H1, H1 = updH H g (some ⟨g, 2, fmk k (rows.take (i + 1)) ++ (rows.map FRow.o).drop (i + 1), false, false, false⟩) := ⟨_, rfl⟩
      rw [← hH1] at hst
      have hH1g : H1 g = some ⟨g, 2, fmk k (rows.take (i + 1)) ++ (rows.map FRow.o).drop (i + 1), false, false, false⟩ := by rw [hH1]; exact if_pos rfl
      have hH1q : ∀ q, q ≠ g → H1 q = H q := fun q hq => by rw [hH1]; exact if_neg hq
      have hf1 : NoFz H1 := by rw [hH1]; exact updH_nofz hf rfl
      have hget1 : (fmk k (rows.take (i + 1)) ++ (rows.map FRow.o).drop (i + 1))[i]? = some (.agg [.str (mtext (fk k (rows.take i))), ow rows[i].l1]) := by
        rw [htk, fmk_snoc, List.append_assoc, List.getElem?_append_right (by omega), hml, Nat.sub_self]
        rfl
      have hld1 := ld_fld (j := 1) hH1g hget1 rfl hl1
      simp -dsimp only [↓SD, SP, ↓reduceIte, Nat.reduceEqDiff, ini, frz, rdAo, rd3o, rd2o, rdpo, rd1o, fnv, intv, VOp.dst, getRo, solEo, solo, solo1, allsz, List.all_cons, List.all_nil, Bool.and_true, beq_self_eq_true, List.length_cons, List.length_nil, Nat.zero_add, srcv, Nat.le_refl, List.take_succ_cons, List.take_zero, and_self, if_true, Nat.reduceAdd, Nat.reduceLT, eq_self, h0', h1, h5, Int.ofNat_lt, hi, x_own g g 2 n i hi, f_optr, ↓r_any]
      refine call_rule (ht (fk k (rows.take i)) (by omega) (by omega)) ?_
      rintro lo1 hi1 r - - rfl
      simp -dsimp only [↓SD, SP, ↓reduceIte, Nat.reduceEqDiff, ini, frz, rdAo, rd3o, rd2o, rdpo, rd1o, fnv, intv, VOp.dst, getRo, solEo, solo, solo1, allsz, List.all_cons, List.all_nil, Bool.and_true, beq_self_eq_true, List.length_cons, List.length_nil, Nat.zero_add, srcv, Nat.le_refl, List.take_succ_cons, List.take_zero, and_self, if_true, Nat.reduceAdd, Nat.reduceLT, eq_self, ↓r_any, h0', h1, h5, x_own g g 2 n i hi, f_optr, hst, wrap64 ((fk k (rows.take i) : Int) + 1) (by omega), hld1]
      refine callm_all (hms rows[i].l1 o1 H1 hf1 (s1.frame fun q hq => hH1q q fun e => hg1 (e ▸ hq)) (fk k (rows.take i) + 1) (by omega) (by omega)) hf1 ?_
      rintro lo2 hi2 r H2 - - ⟨rfl, hf2, hh2, hfr2⟩
      have hH2g : H2 g = _ := (hfr2 g hg1).trans hH1g
      simp -dsimp only [↓SD, SP, ↓reduceIte, Nat.reduceEqDiff, ini, frz, rdAo, rd3o, rd2o, rdpo, rd1o, fnv, intv, VOp.dst, getRo, solEo, solo, solo1, allsz, List.all_cons, List.all_nil, Bool.and_true, beq_self_eq_true, List.length_cons, List.length_nil, Nat.zero_add, srcv, Nat.le_refl, List.take_succ_cons, List.take_zero, and_self, if_true, Nat.reduceAdd, Nat.reduceLT, eq_self, h0', h5, wrap64 ((i : Int) + 1) (by omega)]
      refine hK (m - 1) _ _ _ (by omega) ⟨i + 1, by omega, ?_, ?_, ?_, hf2, hH2g, ?_, fun r hr => ?_⟩
      · simp -dsimp only [↓SD, SP, ↓reduceIte, Nat.reduceEqDiff, ini, frz, rdAo, rd3o, rd2o, rdpo, rd1o, fnv, intv, VOp.dst, getRo, solEo, solo, solo1, allsz, List.all_cons, List.all_nil, Bool.and_true, beq_self_eq_true, List.length_cons, List.length_nil, Nat.zero_add, srcv, Nat.le_refl, List.take_succ_cons, List.take_zero, and_self, if_true, Nat.reduceAdd, Nat.reduceLT, eq_self, h0']
      · simp -dsimp only [↓SD, SP, ↓reduceIte, Nat.reduceEqDiff, ini, frz, rdAo, rd3o, rd2o, rdpo, rd1o, fnv, intv, VOp.dst, getRo, solEo, solo, solo1, allsz, List.all_cons, List.all_nil, Bool.and_true, beq_self_eq_true, List.length_cons, List.length_nil, Nat.zero_add, srcv, Nat.le_refl, List.take_succ_cons, List.take_zero, and_self, if_true, Nat.reduceAdd, Nat.reduceLT, eq_self, htk, fk_snoc]
      · simp -dsimp only [↓SD, SP, ↓reduceIte, Nat.reduceEqDiff, ini, frz, rdAo, rd3o, rd2o, rdpo, rd1o, fnv, intv, VOp.dst, getRo, solEo, solo, solo1, allsz, List.all_cons, List.all_nil, Bool.and_true, beq_self_eq_true, List.length_cons, List.length_nil, Nat.zero_add, srcv, Nat.le_refl, List.take_succ_cons, List.take_zero, and_self, if_true, Nat.reduceAdd, Nat.reduceLT, eq_self, Int.natCast_add, Int.natCast_one]
      · rw [htk]
        refine FHeld.snoc (hheld.frame fun r hr q hq => ?_) hh2
        have hmem : q ∈ (rows.take i).flatMap FRow.tg := List.mem_flatMap.2 ⟨r, hr, hq⟩
        rw [hfr2 q fun h => hd3 q hmem q (List.mem_append_left _ h) rfl, hH1q q fun e => hng (e ▸ List.mem_append_left _ hmem)]
      · have t1 := horig r (by rw [hdr]; exact List.mem_cons_of_mem _ hr)
        refine t1.frame fun q hq => ?_
        have hmem : q ∈ (rows.drop (i + 1)).flatMap FRow.tg := List.mem_flatMap.2 ⟨r, hr, hq⟩
        rw [hfr2 q fun h => hd6 q h q hmem rfl, hH1q q fun e => hng (e ▸ List.mem_append_right _ (List.mem_append_right _ hmem))]
    · simp -dsimp only [↓SD, SP, ↓reduceIte, Nat.reduceEqDiff, ini, frz, rdAo, rd3o, rd2o, rdpo, rd1o, fnv, intv, VOp.dst, getRo, solEo, solo, solo1, allsz, List.all_cons, List.all_nil, Bool.and_true, beq_self_eq_true, List.length_cons, List.length_nil, Nat.zero_add, srcv, Nat.le_refl, List.take_succ_cons, List.take_zero, and_self, if_true, Nat.reduceAdd, Nat.reduceLT, eq_self, h0', h5, Int.ofNat_lt, hi]
      obtain rfl : i = n := by omega
      exact hQ _ _ _ _ ⟨rfl, h1, hf, hheld, _, hHg⟩
theorem s_heldFileS (g n k : Nat) (rows : List FRow) (rest : List AV) (H0 : Hp) (hn : n = rows.length) (hn2 : n ≤ 1000000) (hok : ∀ r ∈ rows, r.ok) (hH : H0 g = some ⟨g, 2, fmk k rows ++ rest, false, false, false⟩) (hh : FHeld H0 k rows) (hfz : NoFz H0) (h0 : 0 < k) (hk1 : k ≤ 1000000000000000000) :
    OKM Go.Proofs.Tryd.prog 31 [.own g g 2 n, .int .i64 k] H0 (fun _ _ r H' => r = .int .i64 (fk k rows : Nat) ∧ H' = H0) := by
  refine fn_okM k31 rfl ?_
  have hms := held_sl
  have ht := fun k h0 hk => s_markText k h0 hk
  generalize OKM Go.Proofs.Tryd.prog = M at *
  generalize OK Go.Proofs.Tryd.prog = L at *
  intro lo hlo
  simp -dsimp only [↓SD, SP, ↓reduceIte, Nat.reduceEqDiff, ini, frz, rdAo, rd3o, rd2o, rdpo, rd1o, fnv, intv, VOp.dst, getRo, solEo, solo, solo1, allsz, List.all_cons, List.all_nil, Bool.and_true, beq_self_eq_true, List.length_cons, List.length_nil, Nat.zero_add, srcv, Nat.le_refl, List.take_succ_cons, List.take_zero, and_self, if_true, Nat.reduceAdd, Nat.reduceLT, eq_self, c31]
  refine loop_rule (fun m E H _ => ∃ i : Nat, m + i = n ∧ E 0 = .own g g 2 n ∧ E 1 = .int .i64 (fk k (rows.take i) : Nat) ∧ E 5 = .int .i64 i ∧ H = H0)
    (fun e E H _ => e = .exit 0 ∧ E 1 = .int .i64 (fk k rows : Nat) ∧ H = H0) n ⟨0, rfl, rfl, rfl, rfl, rfl⟩ ?_ ?_
  · rintro e E H n' ⟨rfl, h1, rfl⟩
    simp -dsimp only [↓SD, SP, ↓reduceIte, Nat.reduceEqDiff, ini, frz, rdAo, rd3o, rd2o, rdpo, rd1o, fnv, intv, VOp.dst, getRo, solEo, solo, solo1, allsz, List.all_cons, List.all_nil, Bool.and_true, beq_self_eq_true, List.length_cons, List.length_nil, Nat.zero_add, srcv, Nat.le_refl, List.take_succ_cons, List.take_zero, and_self, if_true, Nat.reduceAdd, Nat.reduceLT, eq_self, h1, noTup]
  · rintro m E H n' Q K ⟨i, hm, h0', h1, h5, rfl⟩ hQ hK
    by_cases hi : i < n
    · have hir : i < rows.length := by omega
      obtain ⟨o1, n1⟩ := hok rows[i] (List.getElem_mem hir)
      obtain ⟨kb1, kb2⟩ := fk_le k (rows.take i) fun r hr => hok r (List.mem_of_mem_take hr)
      have hti : (rows.take i).length = i := by simp; omega
      rw [hti] at kb2
      have htk : rows.take (i + 1) = rows.take i ++ [rows[i]] := List.take_succ_eq_append_getElem hir
      have hdr : rows.drop i = rows[i] :: rows.drop (i + 1) := List.drop_eq_getElem_cons hir
      have hsplit : rows = rows.take i ++ rows[i] :: rows.drop (i + 1) := by rw [← hdr, List.take_append_drop]
      have s1 : SHeld H (fk k (rows.take i) + 1) rows[i].l1 := by
        refine FHeld.get (rest := rows.drop (i + 1)) ?_
        rw [← hsplit]
        exact hh
      have fmk' : ∀ (k : Nat) (rs rest : List FRow) (r : FRow), (fmk k (rs ++ r :: rest))[rs.length]? = some (.agg [.str (mtext (fk k rs)), ow r.l1]) := by
        intro k rs
        induction rs generalizing k with
        | nil => intro rest r; rfl
        | cons q rs ih => intro rest r; exact ih _ rest r
      have hget : (fmk k rows ++ rest)[i]? = some (.agg [.str (mtext (fk k (rows.take i))), ow rows[i].l1]) := by
        rw [List.getElem?_append_left (by rw [fmk_len]; exact hir)]
        have := fmk' k (rows.take i) (rows.drop (i + 1)) rows[i]
        rw [← hsplit, hti] at this
        exact this
      have hl1 : (ow rows[i].l1).isAgg = false := o1.fld.1
      have ld0 := ld_fld (j := 0) hH hget rfl (ia_str _)
      have ld1 := ld_fld (j := 1) hH hget rfl hl1
      simp -dsimp only [↓SD, SP, ↓reduceIte, Nat.reduceEqDiff, ini, frz, rdAo, rd3o, rd2o, rdpo, rd1o, fnv, intv, VOp.dst, getRo, solEo, solo, solo1, allsz, List.all_cons, List.all_nil, Bool.and_true, beq_self_eq_true, List.length_cons, List.length_nil, Nat.zero_add, srcv, Nat.le_refl, List.take_succ_cons, List.take_zero, and_self, if_true, Nat.reduceAdd, Nat.reduceLT, eq_self, h0', h1, h5, Int.ofNat_lt, hi, x_own g g 2 n i hi, f_optr, ld0, ↓r_any]
      refine call_rule (ht (fk k (rows.take i)) (by omega) (by omega)) ?_
      rintro lo1 hi1 r - - rfl
      simp -dsimp only [↓SD, SP, ↓reduceIte, Nat.reduceEqDiff, ini, frz, rdAo, rd3o, rd2o, rdpo, rd1o, fnv, intv, VOp.dst, getRo, solEo, solo, solo1, allsz, List.all_cons, List.all_nil, Bool.and_true, beq_self_eq_true, List.length_cons, List.length_nil, Nat.zero_add, srcv, Nat.le_refl, List.take_succ_cons, List.take_zero, and_self, if_true, Nat.reduceAdd, Nat.reduceLT, eq_self, ↓r_any, h0', h1, h5, x_own g g 2 n i hi, f_optr, ld0, ld1, wrap64 ((fk k (rows.take i) : Int) + 1) (by omega)]
      refine callm_all (hms rows[i].l1 o1 H (fk k (rows.take i) + 1) s1 (by omega) (by omega)) hfz ?_
      rintro lo2 hi2 r H2 - - ⟨rfl, rfl⟩
      simp -dsimp only [↓SD, SP, ↓reduceIte, Nat.reduceEqDiff, ini, frz, rdAo, rd3o, rd2o, rdpo, rd1o, fnv, intv, VOp.dst, getRo, solEo, solo, solo1, allsz, List.all_cons, List.all_nil, Bool.and_true, beq_self_eq_true, List.length_cons, List.length_nil, Nat.zero_add, srcv, Nat.le_refl, List.take_succ_cons, List.take_zero, and_self, if_true, Nat.reduceAdd, Nat.reduceLT, eq_self, h5, show ¬ ((fk k (rows.take i) + 1 + lenV rows[i].l1 : Nat) : Int) < 0 by omega, wrap64 ((i : Int) + 1) (by omega)]
      refine hK (m - 1) _ _ _ (by omega) ⟨i + 1, by omega, ?_, ?_, ?_, rfl⟩
      · simp -dsimp only [↓SD, SP, ↓reduceIte, Nat.reduceEqDiff, ini, frz, rdAo, rd3o, rd2o, rdpo, rd1o, fnv, intv, VOp.dst, getRo, solEo, solo, solo1, allsz, List.all_cons, List.all_nil, Bool.and_true, beq_self_eq_true, List.length_cons, List.length_nil, Nat.zero_add, srcv, Nat.le_refl, List.take_succ_cons, List.take_zero, and_self, if_true, Nat.reduceAdd, Nat.reduceLT, eq_self, h0']
      · simp -dsimp only [↓SD, SP, ↓reduceIte, Nat.reduceEqDiff, ini, frz, rdAo, rd3o, rd2o, rdpo, rd1o, fnv, intv, VOp.dst, getRo, solEo, solo, solo1, allsz, List.all_cons, List.all_nil, Bool.and_true, beq_self_eq_true, List.length_cons, List.length_nil, Nat.zero_add, srcv, Nat.le_refl, List.take_succ_cons, List.take_zero, and_self, if_true, Nat.reduceAdd, Nat.reduceLT, eq_self, htk, fk_snoc]
      · simp -dsimp only [↓SD, SP, ↓reduceIte, Nat.reduceEqDiff, ini, frz, rdAo, rd3o, rd2o, rdpo, rd1o, fnv, intv, VOp.dst, getRo, solEo, solo, solo1, allsz, List.all_cons, List.all_nil, Bool.and_true, beq_self_eq_true, List.length_cons, List.length_nil, Nat.zero_add, srcv, Nat.le_refl, List.take_succ_cons, List.take_zero, and_self, if_true, Nat.reduceAdd, Nat.reduceLT, eq_self, Int.natCast_add, Int.natCast_one]
    · simp -dsimp only [↓SD, SP, ↓reduceIte, Nat.reduceEqDiff, ini, frz, rdAo, rd3o, rd2o, rdpo, rd1o, fnv, intv, VOp.dst, getRo, solEo, solo, solo1, allsz, List.all_cons, List.all_nil, Bool.and_true, beq_self_eq_true, List.length_cons, List.length_nil, Nat.zero_add, srcv, Nat.le_refl, List.take_succ_cons, List.take_zero, and_self, if_true, Nat.reduceAdd, Nat.reduceLT, eq_self, h0', h5, Int.ofNat_lt, hi]
      rw [List.take_of_length_le (by omega)] at h1
      exact hQ _ _ _ _ ⟨rfl, h1, rfl⟩
theorem s_markFileS0 (k : Nat) (H0 : Hp) : OKM Go.Proofs.Tryd.prog 25 [.emp, .int .i64 k] H0 (fun _ _ r H' => r = .int .i64 k ∧ H' = H0) := by
  refine fn_okM k25 rfl ?_
  generalize OK Go.Proofs.Tryd.prog = L at *
  intro lo hlo
  simp -dsimp only [↓SD, SP, ↓reduceIte, Nat.reduceEqDiff, ini, frz, rdAo, rd3o, rd2o, rdpo, rd1o, fnv, intv, VOp.dst, getRo, solEo, solo, solo1, allsz, List.all_cons, List.all_nil, Bool.and_true, beq_self_eq_true, List.length_cons, List.length_nil, Nat.zero_add, srcv, Nat.le_refl, List.take_succ_cons, List.take_zero, and_self, if_true, Nat.reduceAdd, Nat.reduceLT, eq_self, c25]
  refine loop_rule (fun m E H _ => E 0 = .emp ∧ E 1 = .int .i64 k ∧ E 5 = .int .i64 0 ∧ H = H0) (fun e E H _ => e = .exit 0 ∧ E 1 = .int .i64 k ∧ H = H0) 0 ⟨rfl, rfl, rfl, rfl⟩ ?_ ?_
  · rintro e E H n' ⟨rfl, h1, rfl⟩
    simp -dsimp only [↓SD, SP, ↓reduceIte, Nat.reduceEqDiff, ini, frz, rdAo, rd3o, rd2o, rdpo, rd1o, fnv, intv, VOp.dst, getRo, solEo, solo, solo1, allsz, List.all_cons, List.all_nil, Bool.and_true, beq_self_eq_true, List.length_cons, List.length_nil, Nat.zero_add, srcv, Nat.le_refl, List.take_succ_cons, List.take_zero, and_self, if_true, Nat.reduceAdd, Nat.reduceLT, eq_self, h1, noTup]
  · rintro m E H n' Q K ⟨h0', h1, h5, rfl⟩ hQ hK
    simp -dsimp only [↓SD, SP, ↓reduceIte, Nat.reduceEqDiff, ini, frz, rdAo, rd3o, rd2o, rdpo, rd1o, fnv, intv, VOp.dst, getRo, solEo, solo, solo1, allsz, List.all_cons, List.all_nil, Bool.and_true, beq_self_eq_true, List.length_cons, List.length_nil, Nat.zero_add, srcv, Nat.le_refl, List.take_succ_cons, List.take_zero, and_self, if_true, Nat.reduceAdd, Nat.reduceLT, eq_self, h0', h1, h5, Int.natCast_zero, Int.lt_irrefl]
    exact hQ _ _ _ _ ⟨rfl, h1, rfl⟩
theorem s_heldFileS0 (k : Nat) (H0 : Hp) : OKM Go.Proofs.Tryd.prog 31 [.emp, .int .i64 k] H0 (fun _ _ r H' => r = .int .i64 k ∧ H' = H0) := by
  refine fn_okM k31 rfl ?_
  generalize OK Go.Proofs.Tryd.prog = L at *
  intro lo hlo
  simp -dsimp only [↓SD, SP, ↓reduceIte, Nat.reduceEqDiff, ini, frz, rdAo, rd3o, rd2o, rdpo, rd1o, fnv, intv, VOp.dst, getRo, solEo, solo, solo1, allsz, List.all_cons, List.all_nil, Bool.and_true, beq_self_eq_true, List.length_cons, List.length_nil, Nat.zero_add, srcv, Nat.le_refl, List.take_succ_cons, List.take_zero, and_self, if_true, Nat.reduceAdd, Nat.reduceLT, eq_self, c31]
  refine loop_rule (fun m E H _ => E 0 = .emp ∧ E 1 = .int .i64 k ∧ E 5 = .int .i64 0 ∧ H = H0) (fun e E H _ => e = .exit 0 ∧ E 1 = .int .i64 k ∧ H = H0) 0 ⟨rfl, rfl, rfl, rfl⟩ ?_ ?_
  · rintro e E H n' ⟨rfl, h1, rfl⟩
    simp -dsimp only [↓SD, SP, ↓reduceIte, Nat.reduceEqDiff, ini, frz, rdAo, rd3o, rd2o, rdpo, rd1o, fnv, intv, VOp.dst, getRo, solEo, solo, solo1, allsz, List.all_cons, List.all_nil, Bool.and_true, beq_self_eq_true, List.length_cons, List.length_nil, Nat.zero_add, srcv, Nat.le_refl, List.take_succ_cons, List.take_zero, and_self, if_true, Nat.reduceAdd, Nat.reduceLT, eq_self, h1, noTup]
  · rintro m E H n' Q K ⟨h0', h1, h5, rfl⟩ hQ hK
    simp -dsimp only [↓SD, SP, ↓reduceIte, Nat.reduceEqDiff, ini, frz, rdAo, rd3o, rd2o, rdpo, rd1o, fnv, intv, VOp.dst, getRo, solEo, solo, solo1, allsz, List.all_cons, List.all_nil, Bool.and_true, beq_self_eq_true, List.length_cons, List.length_nil, Nat.zero_add, srcv, Nat.le_refl, List.take_succ_cons, List.take_zero, and_self, if_true, Nat.reduceAdd, Nat.reduceLT, eq_self, h0', h1, h5, Int.natCast_zero, Int.lt_irrefl]
    exact hQ _ _ _ _ ⟨rfl, h1, rfl⟩

/-- a list of hunks, whole: none, or one whose rows have blocks of their own -/
def FSl (r : AV) : Prop := r = .emp ∨ ∃ (g n : Nat) (rows : List FRow), r = .lsl (some (g, 2)) n (rows.map FRow.v) ∧ n ≤ rows.length ∧ n ≤ 1000000 ∧ (∀ r ∈ rows, r.ok) ∧ (g :: rows.flatMap FRow.tg).Nodup
theorem FRow.ow (r : FRow) : ow r.v = r.o := rfl
theorem tags_frows (rows : List FRow) : tagsL (rows.map FRow.v) = rows.flatMap FRow.tg := by
  induction rows with
  | nil => rfl
  | cons r rs ih => simp [tagsL, ih, FRow.v, FRow.tg, tags]
theorem tok_frows (rows : List FRow) (h : ∀ r ∈ rows, r.ok) : tokL (rows.map FRow.v) = true := (tokL_iff _).2 fun x hx => by
  obtain ⟨r, hr, rfl⟩ := List.mem_map.1 hx
  obtain ⟨h1, _⟩ := h r hr
  simp [FRow.v, tok, tokL, h1.tok]
theorem FSl.tok {r : AV} (h : FSl r) : tok r = true := by
  rcases h with rfl | ⟨g, n, rows, rfl, _, _, hok, _⟩
  · rfl
  · simp only [Go.AVM.tok, tok_frows rows hok]
    rfl
theorem FSl.tree {g n : Nat} {rows : List FRow} (hok : ∀ r ∈ rows, r.ok) (hnd : (g :: rows.flatMap FRow.tg).Nodup) : treeH (.lsl (some (g, 2)) n (rows.map FRow.v)) g = some ⟨g, 2, rows.map FRow.o, false, false, false⟩ ∧
    ∀ r ∈ rows, SOrig (treeH (.lsl (some (g, 2)) n (rows.map FRow.v))) r.l1 := by
  have hh := treeH_holds (x := .lsl (some (g, 2)) n (rows.map FRow.v)) (by simp only [Go.AVM.tok, tok_frows rows hok]; rfl) (by simp only [tags, tags_frows]; exact hnd)
  have how : owL (rows.map FRow.v) = rows.map FRow.o := by rw [owL_map, List.map_map]; rfl
  refine ⟨?_, fun r hr => ?_⟩
  · have := hh (g, ⟨g, 2, owL (rows.map FRow.v), false, false, false⟩) (by simp [bl])
    rw [how] at this
    exact this
  · obtain ⟨h1, _⟩ := hok r hr
    have hm : ∀ p ∈ bl r.v, treeH (.lsl (some (g, 2)) n (rows.map FRow.v)) p.1 = some p.2 := fun p hp => hh p (by
      simp only [bl]
      exact List.mem_cons_of_mem _ (mem_blL (List.mem_map.2 ⟨r, hr, rfl⟩) hp))
    exact sorig_of h1 fun p hp => hm p (by simp [FRow.v, bl, blL, hp])
theorem FSl.markA {r : AV} (h : FSl r) : MarkA Go.Proofs.Tryd.prog 25 r 1000000000000000 := by
  intro k h0 hk1
  rcases h with rfl | ⟨g, n, rows, rfl, hn, hn2, hok, hnd⟩
  · exact (s_markFileS0 k _).weak fun _ _ r' H' ⟨h, _⟩ => ⟨k, h, Nat.le_refl _, by omega⟩
  · obtain ⟨t1, t2⟩ := FSl.tree (n := n) hok hnd
    obtain ⟨b1, b2⟩ := fk_le k (rows.take n) fun r hr => hok r (List.mem_of_mem_take hr)
    have hl : (rows.take n).length = n := by simp; omega
    rw [hl] at b2
    exact (s_markFileS g n k rows _ hn hn2 hok hnd t1 t2 treeH_fz h0 hk1).weak fun _ _ r' H' ⟨h, _⟩ => ⟨_, h, b1, by omega⟩
theorem FSl.markR {r : AV} (h : FSl r) : MarkR Go.Proofs.Tryd.prog 25 31 r := by
  intro k h0 hk1
  rcases h with rfl | ⟨g, n, rows, rfl, hn, hn2, hok, hnd⟩
  · exact ⟨k, Nat.le_refl _, by omega, (s_markFileS0 k _).weak fun _ _ r' H' ⟨h, hH⟩ => ⟨h, by rw [hH]; exact treeH_fz, s_heldFileS0 k H'⟩⟩
  · obtain ⟨t1, t2⟩ := FSl.tree (n := n) hok hnd
    have hok' : ∀ r ∈ rows.take n, r.ok := fun r hr => hok r (List.mem_of_mem_take hr)
    obtain ⟨b1, b2⟩ := fk_le k (rows.take n) hok'
    have hl : (rows.take n).length = n := by simp; omega
    rw [hl] at b2
    exact ⟨fk k (rows.take n), b1, by omega, (s_markFileS g n k rows _ hn hn2 hok hnd t1 t2 treeH_fz h0 (by omega)).weak fun _ _ r' H' ⟨h1, h2, h3, rest, h4⟩ => ⟨h1, h2, s_heldFileS g n k (rows.take n) rest H' hl.symm hn2 hok' h4 h3 h2 h0 (by omega)⟩⟩
end Go.AVM

/- Lists of files: what the law makes, marked; what is made anew. -/
set_option linter.unusedSimpArgs false
set_option linter.unusedVariables false
namespace Go.AVM
theorem frows_of : ∀ (ys : List AV), (∀ y ∈ ys, ∃ q : FRow, q.ok ∧ y = q.v) → ∃ qs : List FRow, ys = qs.map FRow.v ∧ ∀ q ∈ qs, q.ok
  | [], _ => ⟨[], rfl, by simp⟩
  | y :: ys, h => by
    obtain ⟨q, hq, rfl⟩ := h y List.mem_cons_self
    obtain ⟨qs, rfl, hqs⟩ := frows_of ys fun z hz => h z (List.mem_cons_of_mem _ hz)
    exact ⟨q :: qs, rfl, fun z hz => (List.mem_cons.1 hz).elim (fun e => e ▸ hq) (hqs z)⟩
theorem IsL.fsl {lo hi : Nat} {xs : List FileL} {b : Bool} {r : AV} (ho : okFs xs) (h : IsL 2 (fun lo hi x r => IsFile lo hi x b r) FlF lo hi xs b r) : FSl r := by
  rcases h with ⟨_, rfl, _⟩ | ⟨g, rows, h1, h2, rfl, hl, ht, hi', hf⟩
  · exact .inl rfl
  · obtain ⟨qs, rfl, hqs⟩ := frows_of rows fun y hy => by
      obtain ⟨i, hlt, rfl⟩ := List.getElem_of_mem hy
      by_cases hi : i < xs.length
      · obtain ⟨_, _, l2, e, q2, _⟩ := hi' i _ _ (List.getElem?_eq_getElem hi) (List.getElem?_eq_getElem hlt)
        have hx := ho.2 _ (List.getElem_mem hi)
        have a2 := hx.2.1
        have b2 := q2.len
        exact ⟨⟨xs[i].path, l2⟩, ⟨q2.sl, by dsimp only; omega⟩, e⟩
      · obtain ⟨b1, e⟩ := hf i _ (by omega) (List.getElem?_eq_getElem hlt)
        exact ⟨⟨_, _⟩, ⟨.inr ⟨b1, 1, [spare], rfl, by simp⟩, by simp [lenV]⟩, e⟩
    have := ho.1
    rw [tags_frows] at ht
    exact .inr ⟨g, xs.length, qs, rfl, by simpa using (show xs.length ≤ (qs.map FRow.v).length by omega), by omega, hqs, ht.1⟩
theorem files_toA (xs : List FileL) (b : Bool) (ho : okFs xs) : OK Go.Proofs.Tryd.prog 19 [filesV xs, .bool b] (fun lo hi r => ToA Go.Proofs.Tryd.prog 25 (filesV xs) (filesF xs) b lo hi r) :=
  (s_toFileS xs b ho).weak fun lo hi r q => ⟨⟨q.wk fun _ _ _ _ h => h.wk, (q.fsl ho).tok, q.tin⟩, fun hb => by subst hb; exact q.wkF (e := fileV) (fx := fillFl) (fun _ h => h.wk) fun _ _ _ _ h => h.wkF, (q.fsl ho).markA⟩
theorem files_eq (xs : List FileL) (h : xs.length ≤ 1000000) (h2 : ∀ x ∈ xs, x.text.length ≤ 1000000) : OK Go.Proofs.Tryd.prog 30 [filesV xs, filesV xs] (fun _ _ r => r = .bool true) :=
  (s_eqFileS xs xs (by omega) fun x hx => by have := h2 x hx; omega).weak fun _ _ r hr => by simpa using hr
/-! ### rows of files -/
def FIs (h : FileL) (r : FRow) : Prop := r.a = h.path ∧ Wk r.l1 (strs h.text) ∧ SlOk r.l1 ∧ lenV r.l1 = h.text.length
def FIsL (hs : List FileL) (rs : List FRow) : Prop := hs.length = rs.length ∧ ∀ (i : Nat) (h : FileL) (r : FRow), hs[i]? = some h → rs[i]? = some r → FIs h r
theorem FIsL.nil : FIsL [] [] := ⟨rfl, fun i h r e => by simp at e⟩
theorem FIsL.snoc {hs : List FileL} {rs : List FRow} {h : FileL} {r : FRow} (hh : FIsL hs rs) (hr : FIs h r) : FIsL (hs ++ [h]) (rs ++ [r]) := by
  refine ⟨by simp [hh.1], fun i h' r' e1 e2 => ?_⟩
  by_cases hi : i < hs.length
  · rw [List.getElem?_append_left hi] at e1
    rw [List.getElem?_append_left (by rw [← hh.1]; exact hi)] at e2
    exact hh.2 i h' r' e1 e2
  · rw [List.getElem?_append_right (by omega)] at e1
    rw [List.getElem?_append_right (by rw [← hh.1]; omega), ← hh.1] at e2
    cases hk : i - hs.length with
    | zero =>
      rw [hk] at e1 e2
      obtain rfl : h = h' := by simpa using e1
      obtain rfl : r = r' := by simpa using e2
      exact hr
    | succ k => rw [hk] at e1; simp at e1
theorem FIs.wk {h : FileL} {r : FRow} (hh : FIs h r) : Wk r.v (fileV h) := by
  obtain ⟨h1, h2, _⟩ := hh
  unfold FRow.v fileV
  rw [h1]
  exact wk_l2 (.refl _) h2
/-- a new list of files, or none -/
def RFs (lo hi : Nat) (hs : List FileL) (r : AV) : Prop := (hs = [] ∧ r = .emp) ∨ ∃ g rows, r = .lsl (some (g, 2)) hs.length (rows.map FRow.v) ∧ FIsL hs rows ∧ Tin lo hi (g :: rows.flatMap FRow.tg)
theorem RFs.mono {lo hi lo' hi' : Nat} {hs : List FileL} {r : AV} (h : RFs lo hi hs r) (h1 : lo' ≤ lo) (h2 : hi ≤ hi') : RFs lo' hi' hs r :=
  h.imp id fun ⟨g, rows, a, b, c⟩ => ⟨g, rows, a, b, c.mono h1 h2⟩
theorem RFs.fsl {lo hi : Nat} {hs : List FileL} {r : AV} (h : RFs lo hi hs r) (hl : hs.length ≤ 1000000) (hb : ∀ h ∈ hs, h.text.length ≤ 1000000) : FSl r := by
  rcases h with ⟨_, rfl⟩ | ⟨g, rows, rfl, ⟨h1, h2⟩, h3⟩
  · exact .inl rfl
  · refine .inr ⟨g, hs.length, rows, rfl, by omega, hl, fun r hr => ?_, h3.1⟩
    obtain ⟨i, hi, rfl⟩ := List.getElem_of_mem hr
    have hi' : i < hs.length := by omega
    obtain ⟨_, _, a, d⟩ := h2 i _ _ (List.getElem?_eq_getElem hi') (List.getElem?_eq_getElem hi)
    have := hb _ (List.getElem_mem hi')
    exact ⟨a, by omega⟩
theorem RFs.wk {lo hi : Nat} {hs : List FileL} {r : AV} (h : RFs lo hi hs r) : Wk r (filesV hs) := by
  rcases h with ⟨rfl, rfl⟩ | ⟨g, rows, rfl, ⟨h1, h2⟩, _⟩
  · exact .emp
  · refine .lsl _ _ _ _ (by simp) (by simp; omega) fun i x y hx hy => ?_
    rw [List.getElem?_map] at hx hy
    obtain ⟨h, hh, rfl⟩ := Option.map_eq_some_iff.1 hy
    obtain ⟨q, hq, rfl⟩ := Option.map_eq_some_iff.1 hx
    exact (h2 i h q hh hq).wk
theorem RFs.new {lo hi : Nat} {hs : List FileL} {r : AV} (h : RFs lo hi hs r) (hl : hs.length ≤ 1000000) (hb : ∀ h ∈ hs, h.text.length ≤ 1000000) : New (filesV hs) lo hi r := by
  refine ⟨h.wk, (h.fsl hl hb).tok, ?_⟩
  rcases h with ⟨_, rfl⟩ | ⟨g, rows, rfl, _, h3⟩
  · exact .nil
  · simp only [tags, tags_frows]
    exact h3
theorem RFs.res {lo hi : Nat} {hs : List FileL} {r : AV} (h : RFs lo hi hs r) (hl : hs.length ≤ 1000000) (hb : ∀ h ∈ hs, h.text.length ≤ 1000000) : ResR Go.Proofs.Tryd.prog 25 31 (filesV hs) lo hi r :=
  ⟨h.new hl hb, (h.fsl hl hb).markR⟩
theorem tg_fsnoc (rows : List FRow) (r : FRow) : (rows ++ [r]).flatMap FRow.tg = rows.flatMap FRow.tg ++ tags r.l1 := by simp [FRow.tg]
end Go.AVM
