/- Files: what the law's helpers give. -/
import Derived.Test.YtmcacnhmdfnpgaaDoorMH
import Derived.Test.YtmcacnhmdfnpgaaDoorMP
set_option linter.unusedSimpArgs false
set_option linter.unusedVariables false
namespace Go.AVM
structure FileL where
  path : ByteArray
  text : List ByteArray
  deriving DecidableEq
def fileV (h : FileL) : AV := .agg [.str h.path, strs h.text]
abbrev filesV (hs : List FileL) : AV := lv fileV hs
def fileF (h : FileL) : AV := .agg [.str h.path, strsF h.text]
def fillFl : FileL := ⟨spare, [spare]⟩
def wfF (h : FileL) : Prop := h.path.size ≤ 9223372036854775807 ∧ wfS h.text
def okF (h : FileL) : Prop := h.path.size ≤ 1000000 ∧ okL h.text
def wfFs (hs : List FileL) : Prop := hs.length ≤ 9223372036854775807 ∧ ∀ h ∈ hs, wfF h
def okFs (hs : List FileL) : Prop := hs.length ≤ 1000000 ∧ ∀ h ∈ hs, okF h
theorem pl_file {fl : Bool} (h : FileL) : Pl fl (fileV h) := .agg _ fun g hg => by
  simp at hg
  rcases hg with rfl | rfl
  · exact .str _
  · exact pf_strs _
theorem pl_fileF (h : FileL) : Pl true (fileF h) := .agg _ fun g hg => by
  simp at hg
  rcases hg with rfl | rfl
  · exact .str _
  · exact pf_strsF _
theorem wk_l2 {a b a' b' : AV} (h1 : Wk a a') (h2 : Wk b b') : Wk (.agg [a, b]) (.agg [a', b']) := by
  refine .agg _ _ rfl fun i x y hx hy => ?_
  rcases i with _ | _ | i
  · simp at hx hy; subst hx hy; exact h1
  · simp at hx hy; subst hx hy; exact h2
  · simp at hx
theorem s_szFile (h : FileL) (k : Nat) (hk : k ≤ 1000000) (hw : wfF h) : OK Go.Proofs.Tryd.prog 114 [fileV h, .int .i64 k] (fun _ _ r => ∃ i : Int, r = .int .i64 i ∧ (0 ≤ i → okF h ∧ ∃ k' : Nat, i = k' ∧ k' ≤ k)) := by
  refine fn_ok k114 rfl ?_
  have h1 := fun k hk => s15' h.text k hk hw.2
  have hp := hw.1
  generalize OK Go.Proofs.Tryd.prog = L at *
  intro lo
  simp -dsimp only [↓SD, SP, ↓reduceIte, Nat.reduceEqDiff, ini, frz, rdAo, rd3o, rd2o, rdpo, rd1o, fnv, intv, VOp.dst, getRo, solEo, solo, solo1, allsz, List.all_cons, List.all_nil, Bool.and_true, beq_self_eq_true, List.length_cons, List.length_nil, Nat.zero_add, srcv, Nat.le_refl, List.take_succ_cons, List.take_zero, and_self, if_true, Nat.reduceAdd, Nat.reduceLT, eq_self, c114, fileV]
  refine bal_mk fun b hb => ?_
  by_cases hneg0 : (k : Int) - h.path.size < 0
  · simp -dsimp only [↓SD, SP, ↓reduceIte, Nat.reduceEqDiff, ini, frz, rdAo, rd3o, rd2o, rdpo, rd1o, fnv, intv, VOp.dst, getRo, solEo, solo, solo1, allsz, List.all_cons, List.all_nil, Bool.and_true, beq_self_eq_true, List.length_cons, List.length_nil, Nat.zero_add, srcv, Nat.le_refl, List.take_succ_cons, List.take_zero, and_self, if_true, Nat.reduceAdd, Nat.reduceLT, eq_self, fldAv, ↓ldv_f, ↓ldv_n, ↓stv_f, ↓stv_a, fldv, setf, bldv, small, Bool.true_and, List.getElem?_cons_zero, List.getElem?_cons_succ, List.set_cons_zero, List.set_cons_succ, Bool.false_eq_true, if_false, true_and, and_true, reduceCtorEq, false_implies, implies_true, forall_const, wrap64 ((k : Int) - h.path.size) (by omega), hneg0, ↓r_any]
    exact ⟨_, rfl, by omega⟩
  simp -dsimp only [↓SD, SP, ↓reduceIte, Nat.reduceEqDiff, ini, frz, rdAo, rd3o, rd2o, rdpo, rd1o, fnv, intv, VOp.dst, getRo, solEo, solo, solo1, allsz, List.all_cons, List.all_nil, Bool.and_true, beq_self_eq_true, List.length_cons, List.length_nil, Nat.zero_add, srcv, Nat.le_refl, List.take_succ_cons, List.take_zero, and_self, if_true, Nat.reduceAdd, Nat.reduceLT, eq_self, fldAv, ↓ldv_f, ↓ldv_n, ↓stv_f, ↓stv_a, fldv, setf, bldv, small, Bool.true_and, List.getElem?_cons_zero, List.getElem?_cons_succ, List.set_cons_zero, List.set_cons_succ, Bool.false_eq_true, if_false, true_and, and_true, reduceCtorEq, false_implies, implies_true, forall_const, show (k : Int) - h.path.size = ((k - h.path.size : Nat) : Int) by omega, wrap64 ((k - h.path.size : Nat) : Int) (by omega), show ¬ ((k - h.path.size : Nat) : Int) < 0 by omega, ↓rd_strs, ↓r_any]
  refine call_rule (h1 (k - h.path.size) (by omega)) ?_
  rintro lo1 hi1 r g1 g2 ⟨i, rfl, hi⟩
  by_cases hneg : i < 0
  · simp -dsimp only [↓SD, SP, ↓reduceIte, Nat.reduceEqDiff, ini, frz, rdAo, rd3o, rd2o, rdpo, rd1o, fnv, intv, VOp.dst, getRo, solEo, solo, solo1, allsz, List.all_cons, List.all_nil, Bool.and_true, beq_self_eq_true, List.length_cons, List.length_nil, Nat.zero_add, srcv, Nat.le_refl, List.take_succ_cons, List.take_zero, and_self, if_true, Nat.reduceAdd, Nat.reduceLT, eq_self, hneg, ↓r_any]
    exact ⟨_, rfl, by omega⟩
  obtain ⟨ho, k1, rfl, hk1⟩ := hi (by omega)
  simp -dsimp only [↓SD, SP, ↓reduceIte, Nat.reduceEqDiff, ini, frz, rdAo, rd3o, rd2o, rdpo, rd1o, fnv, intv, VOp.dst, getRo, solEo, solo, solo1, allsz, List.all_cons, List.all_nil, Bool.and_true, beq_self_eq_true, List.length_cons, List.length_nil, Nat.zero_add, srcv, Nat.le_refl, List.take_succ_cons, List.take_zero, and_self, if_true, Nat.reduceAdd, Nat.reduceLT, eq_self, hneg, ↓r_any]
  exact ⟨_, rfl, fun _ => ⟨⟨by omega, ho⟩, k1, rfl, by omega⟩⟩
theorem rd_file (H : Hp) (h : FileL) : rd3o false H (fileV h) = some (fileV h, []) := by
  have h1 : (h.text.map AV.str).take h.text.length = h.text.map .str := List.take_of_length_le (by simp)
  simp [fileV, strs, rd3o, rd2o, rdpo, rdso, rd1o, h1]
theorem rd_fileF (H : Hp) (h : FileL) : rd3o true H (fileF h) = some (fileF h, []) := by
  simp [fileF, strsF, rd3o, rd2o, rdpo, rdso, rd1o]
theorem el_file : El 2 fileV := ⟨fun x => ⟨_, rfl, rfl⟩, rd_file⟩
theorem s_szFileS (xs : List FileL) (k : Nat) (hk : k ≤ 1000000) (hw : wfFs xs) : OK Go.Proofs.Tryd.prog 87 [filesV xs, .int .i64 k] (fun _ _ r => ∃ i : Int, r = .int .i64 i ∧ (0 ≤ i → okFs xs ∧ ∃ k' : Nat, i = k' ∧ k' ≤ k)) :=
  g_sz (f := 87) (s := 2) (fT := 114) k87 el_file okF xs k hk hw.1 fun x hx k hk => s_szFile x k hk (hw.2 x hx)
def IsFile (lo hi : Nat) (h : FileL) (bare : Bool) (r : AV) : Prop := ∃ l2, r = .agg [.str h.path, l2] ∧ IsStr lo hi h.text l2 ∧ (bare = false → Wk l2 (strsF h.text))
theorem s_toFile (h : FileL) (bare : Bool) (ho : okF h) : OK Go.Proofs.Tryd.prog 116 [fileV h, .bool bare] (fun lo hi r => IsFile lo hi h bare r) := by
  refine fn_ok k116 rfl ?_
  have h1 := s_toStringS h.text bare ho.2
  generalize OK Go.Proofs.Tryd.prog = L at *
  intro lo
  simp -dsimp only [↓SD, SP, ↓reduceIte, Nat.reduceEqDiff, ini, frz, rdAo, rd3o, rd2o, rdpo, rd1o, fnv, intv, VOp.dst, getRo, solEo, solo, solo1, allsz, List.all_cons, List.all_nil, Bool.and_true, beq_self_eq_true, List.length_cons, List.length_nil, Nat.zero_add, srcv, Nat.le_refl, List.take_succ_cons, List.take_zero, and_self, if_true, Nat.reduceAdd, Nat.reduceLT, eq_self, c116, fileV]
  refine bal_mk fun b hb => ?_
  simp -dsimp only [↓SD, SP, ↓reduceIte, Nat.reduceEqDiff, ini, frz, rdAo, rd3o, rd2o, rdpo, rd1o, fnv, intv, VOp.dst, getRo, solEo, solo, solo1, allsz, List.all_cons, List.all_nil, Bool.and_true, beq_self_eq_true, List.length_cons, List.length_nil, Nat.zero_add, srcv, Nat.le_refl, List.take_succ_cons, List.take_zero, and_self, if_true, Nat.reduceAdd, Nat.reduceLT, eq_self]
  refine bal_mk fun b1 hb1 => ?_
  simp -dsimp only [↓SD, SP, ↓reduceIte, Nat.reduceEqDiff, ini, frz, rdAo, rd3o, rd2o, rdpo, rd1o, fnv, intv, VOp.dst, getRo, solEo, solo, solo1, allsz, List.all_cons, List.all_nil, Bool.and_true, beq_self_eq_true, List.length_cons, List.length_nil, Nat.zero_add, srcv, Nat.le_refl, List.take_succ_cons, List.take_zero, and_self, if_true, Nat.reduceAdd, Nat.reduceLT, eq_self]
  refine bal_mk fun b2 hb2 => ?_
  simp -dsimp only [↓SD, SP, ↓reduceIte, Nat.reduceEqDiff, ini, frz, rdAo, rd3o, rd2o, rdpo, rd1o, fnv, intv, VOp.dst, getRo, solEo, solo, solo1, allsz, List.all_cons, List.all_nil, Bool.and_true, beq_self_eq_true, List.length_cons, List.length_nil, Nat.zero_add, srcv, Nat.le_refl, List.take_succ_cons, List.take_zero, and_self, if_true, Nat.reduceAdd, Nat.reduceLT, eq_self, fldAv, ↓ldv_f, ↓ldv_n, ↓stv_f, ↓stv_a, fldv, setf, bldv, small, Bool.true_and, List.getElem?_cons_zero, List.getElem?_cons_succ, List.set_cons_zero, List.set_cons_succ, Bool.false_eq_true, if_false, true_and, and_true, reduceCtorEq, false_implies, implies_true, forall_const, ↓rd_strs, ↓r_any]
  refine call_rule h1 ?_
  rintro lo1 hi1 l1 g1 g2 ⟨q1, q1'⟩
  obtain ⟨a1, a1'⟩ := q1.fld
  have e1 := fun H => sol1_wk (fl := false) (pf_strs h.text) q1.wk H
  simp -dsimp only [↓SD, SP, ↓reduceIte, Nat.reduceEqDiff, ini, frz, rdAo, rd3o, rd2o, rdpo, rd1o, fnv, intv, VOp.dst, getRo, solEo, solo, solo1, allsz, List.all_cons, List.all_nil, Bool.and_true, beq_self_eq_true, List.length_cons, List.length_nil, Nat.zero_add, srcv, Nat.le_refl, List.take_succ_cons, List.take_zero, and_self, if_true, Nat.reduceAdd, Nat.reduceLT, eq_self, fldAv, ↓ldv_f, ↓ldv_n, ↓stv_f, ↓stv_a, fldv, setf, bldv, small, Bool.true_and, List.getElem?_cons_zero, List.getElem?_cons_succ, List.set_cons_zero, List.set_cons_succ, Bool.false_eq_true, if_false, true_and, and_true, reduceCtorEq, false_implies, implies_true, forall_const, ↓r_any, a1, a1', ↓e1, solso]
  refine ⟨l1, rfl, q1.mono (by omega) (Nat.le_refl _), fun hb => ?_⟩
  obtain ⟨b1, _, _, rfl⟩ := q1' hb
  exact Wk.strip _ _ _ (by simp [roomy])
theorem IsFile.wk {lo hi : Nat} {h : FileL} {bare : Bool} {r : AV} (hr : IsFile lo hi h bare r) : Wk r (fileV h) := by
  obtain ⟨l1, rfl, q1, _⟩ := hr
  exact wk_l2 (.refl _) q1.wk
theorem IsFile.wkF {lo hi : Nat} {h : FileL} {r : AV} (hr : IsFile lo hi h false r) : Wk r (fileF h) := by
  obtain ⟨l1, rfl, q1, q3⟩ := hr
  exact wk_l2 (.refl _) (q3 rfl)
theorem IsFile.tin {lo hi : Nat} {h : FileL} {bare : Bool} {r : AV} (hr : IsFile lo hi h bare r) : Tin lo hi (tags r) := by
  obtain ⟨l1, rfl, q1, _⟩ := hr
  simp only [tags, tagsL, List.nil_append, List.append_nil]
  exact q1.tin
theorem IsFile.agg {lo hi : Nat} {h : FileL} {bare : Bool} {r : AV} (hr : IsFile lo hi h bare r) : ∃ fs, r = .agg fs ∧ fs.length = 2 := by
  obtain ⟨l1, rfl, _⟩ := hr
  exact ⟨_, rfl, rfl⟩
def FlF (r : AV) : Prop := ∃ b1 : Nat, r = .agg [.str spare, .lsl (some (b1, 1)) 1 ([spare].map .str)]
theorem FlF.wk {r : AV} (h : FlF r) : Wk r (fileV fillFl) := by
  obtain ⟨b1, rfl⟩ := h
  exact wk_l2 (.refl _) (Wk.strip _ _ _ (by simp))
theorem s_fillerFile : OK Go.Proofs.Tryd.prog 92 [] (fun lo hi r => FlF r ∧ Tin lo hi (tags r)) := by
  refine fn_ok k92 rfl ?_
  generalize OK Go.Proofs.Tryd.prog = L at *
  intro lo
  simp -dsimp only [↓SD, SP, ↓reduceIte, Nat.reduceEqDiff, ini, frz, rdAo, rd3o, rd2o, rdpo, rd1o, fnv, intv, VOp.dst, getRo, solEo, solo, solo1, allsz, List.all_cons, List.all_nil, Bool.and_true, beq_self_eq_true, List.length_cons, List.length_nil, Nat.zero_add, srcv, Nat.le_refl, List.take_succ_cons, List.take_zero, and_self, if_true, Nat.reduceAdd, Nat.reduceLT, eq_self, c92]
  refine bal_mk fun b hb => ?_
  simp -dsimp only [↓SD, SP, ↓reduceIte, Nat.reduceEqDiff, ini, frz, rdAo, rd3o, rd2o, rdpo, rd1o, fnv, intv, VOp.dst, getRo, solEo, solo, solo1, allsz, List.all_cons, List.all_nil, Bool.and_true, beq_self_eq_true, List.length_cons, List.length_nil, Nat.zero_add, srcv, Nat.le_refl, List.take_succ_cons, List.take_zero, and_self, if_true, Nat.reduceAdd, Nat.reduceLT, eq_self]
  refine bal_mk fun b1 hb1 => ?_
  simp -dsimp only [↓SD, SP, ↓reduceIte, Nat.reduceEqDiff, ini, frz, rdAo, rd3o, rd2o, rdpo, rd1o, fnv, intv, VOp.dst, getRo, solEo, solo, solo1, allsz, List.all_cons, List.all_nil, Bool.and_true, beq_self_eq_true, List.length_cons, List.length_nil, Nat.zero_add, srcv, Nat.le_refl, List.take_succ_cons, List.take_zero, and_self, if_true, Nat.reduceAdd, Nat.reduceLT, eq_self, fldAv, ↓ldv_f, ↓ldv_n, ↓stv_f, ↓stv_a, fldv, setf, bldv, small, Bool.true_and, List.getElem?_cons_zero, List.getElem?_cons_succ, List.set_cons_zero, List.set_cons_succ, Bool.false_eq_true, if_false, true_and, and_true, reduceCtorEq, false_implies, implies_true, forall_const, solso]
  refine ⟨⟨b1, rfl⟩, ?_⟩
  · simp only [tags, tagsL, List.nil_append, List.append_nil, List.cons_append]
    exact (Tin.nil.cons (by simp) (by omega) (by omega) : Tin lo (b1 + 1) [b1])
theorem s_toFileS (xs : List FileL) (bare : Bool) (ho : okFs xs) : OK Go.Proofs.Tryd.prog 91 [filesV xs, .bool bare] (fun lo hi r => IsL 2 (fun lo hi x r => IsFile lo hi x bare r) FlF lo hi xs bare r) :=
  g_to (f := 91) (s := 2) (bytes := 40) (fT := 116) (fF := 92) (fR := 47) (z := .agg [.str ⟨#[]⟩, .emp]) k91 (by decide) (by decide) el_file _ _
    (fun lo hi x r hr => ⟨hr.agg, hr.tin, fun H => sol_wk hr.wk (pl_file (fl := false) x) H⟩) (fun r hr => ⟨by obtain ⟨b1, rfl⟩ := hr; exact ⟨_, rfl, rfl⟩, fun H => sol_wk hr.wk (pl_file (fl := false) fillFl) H⟩) xs bare ho.1 (fun k hk => s54 k hk) (fun x hx => s_toFile x bare (ho.2 x hx))
    s_fillerFile
theorem s_eqFile (x y : FileL) (h1 : x.text.length ≤ 10000000) : OK Go.Proofs.Tryd.prog 132 [fileV x, fileV y] (fun _ _ r => r = .bool (decide (x = y))) := by
  refine fn_ok k132 rfl ?_
  have e1 := s49 x.text y.text h1
  generalize OK Go.Proofs.Tryd.prog = L at *
  intro lo
  obtain ⟨a, l⟩ := x
  obtain ⟨a', l'⟩ := y
  simp -dsimp only [↓SD, SP, ↓reduceIte, Nat.reduceEqDiff, ini, frz, rdAo, rd3o, rd2o, rdpo, rd1o, fnv, intv, VOp.dst, getRo, solEo, solo, solo1, allsz, List.all_cons, List.all_nil, Bool.and_true, beq_self_eq_true, List.length_cons, List.length_nil, Nat.zero_add, srcv, Nat.le_refl, List.take_succ_cons, List.take_zero, and_self, if_true, Nat.reduceAdd, Nat.reduceLT, eq_self, c132, fileV]
  refine bal_mk fun b hb => ?_
  simp -dsimp only [↓SD, SP, ↓reduceIte, Nat.reduceEqDiff, ini, frz, rdAo, rd3o, rd2o, rdpo, rd1o, fnv, intv, VOp.dst, getRo, solEo, solo, solo1, allsz, List.all_cons, List.all_nil, Bool.and_true, beq_self_eq_true, List.length_cons, List.length_nil, Nat.zero_add, srcv, Nat.le_refl, List.take_succ_cons, List.take_zero, and_self, if_true, Nat.reduceAdd, Nat.reduceLT, eq_self]
  refine bal_mk fun b1 hb1 => ?_
  by_cases ha : a = a'
  · simp -dsimp only [↓SD, SP, ↓reduceIte, Nat.reduceEqDiff, ini, frz, rdAo, rd3o, rd2o, rdpo, rd1o, fnv, intv, VOp.dst, getRo, solEo, solo, solo1, allsz, List.all_cons, List.all_nil, Bool.and_true, beq_self_eq_true, List.length_cons, List.length_nil, Nat.zero_add, srcv, Nat.le_refl, List.take_succ_cons, List.take_zero, and_self, if_true, Nat.reduceAdd, Nat.reduceLT, eq_self, fldAv, ↓ldv_f, ↓ldv_n, ↓stv_f, ↓stv_a, fldv, setf, bldv, small, Bool.true_and, List.getElem?_cons_zero, List.getElem?_cons_succ, List.set_cons_zero, List.set_cons_succ, Bool.false_eq_true, if_false, true_and, and_true, reduceCtorEq, false_implies, implies_true, forall_const, ha, ↓rd_strs, ↓r_any]
    refine call_rule e1 ?_
    rintro lo1 hi1 r - - rfl
    by_cases hl : l = l'
    · simp -dsimp only [↓SD, SP, ↓reduceIte, Nat.reduceEqDiff, ini, frz, rdAo, rd3o, rd2o, rdpo, rd1o, fnv, intv, VOp.dst, getRo, solEo, solo, solo1, allsz, List.all_cons, List.all_nil, Bool.and_true, beq_self_eq_true, List.length_cons, List.length_nil, Nat.zero_add, srcv, Nat.le_refl, List.take_succ_cons, List.take_zero, and_self, if_true, Nat.reduceAdd, Nat.reduceLT, eq_self, fldAv, ↓ldv_f, ↓ldv_n, ↓stv_f, ↓stv_a, fldv, setf, bldv, small, Bool.true_and, List.getElem?_cons_zero, List.getElem?_cons_succ, List.set_cons_zero, List.set_cons_succ, Bool.false_eq_true, if_false, true_and, and_true, reduceCtorEq, false_implies, implies_true, forall_const, hl, ↓r_any]
      simp [ha, hl]
    · simp -dsimp only [↓SD, SP, ↓reduceIte, Nat.reduceEqDiff, ini, frz, rdAo, rd3o, rd2o, rdpo, rd1o, fnv, intv, VOp.dst, getRo, solEo, solo, solo1, allsz, List.all_cons, List.all_nil, Bool.and_true, beq_self_eq_true, List.length_cons, List.length_nil, Nat.zero_add, srcv, Nat.le_refl, List.take_succ_cons, List.take_zero, and_self, if_true, Nat.reduceAdd, Nat.reduceLT, eq_self, fldAv, ↓ldv_f, ↓ldv_n, ↓stv_f, ↓stv_a, fldv, setf, bldv, small, Bool.true_and, List.getElem?_cons_zero, List.getElem?_cons_succ, List.set_cons_zero, List.set_cons_succ, Bool.false_eq_true, if_false, true_and, and_true, reduceCtorEq, false_implies, implies_true, forall_const, hl, ↓r_any]
      simp [hl]
  · simp -dsimp only [↓SD, SP, ↓reduceIte, Nat.reduceEqDiff, ini, frz, rdAo, rd3o, rd2o, rdpo, rd1o, fnv, intv, VOp.dst, getRo, solEo, solo, solo1, allsz, List.all_cons, List.all_nil, Bool.and_true, beq_self_eq_true, List.length_cons, List.length_nil, Nat.zero_add, srcv, Nat.le_refl, List.take_succ_cons, List.take_zero, and_self, if_true, Nat.reduceAdd, Nat.reduceLT, eq_self, fldAv, ↓ldv_f, ↓ldv_n, ↓stv_f, ↓stv_a, fldv, setf, bldv, small, Bool.true_and, List.getElem?_cons_zero, List.getElem?_cons_succ, List.set_cons_zero, List.set_cons_succ, Bool.false_eq_true, if_false, true_and, and_true, reduceCtorEq, false_implies, implies_true, forall_const, ha]
    simp [ha]
theorem s_eqFileS (xs ys : List FileL) (hx : xs.length ≤ 10000000) (h : ∀ x ∈ xs, x.text.length ≤ 10000000) : OK Go.Proofs.Tryd.prog 122 [filesV xs, filesV ys] (fun _ _ r => r = .bool (decide (xs = ys))) :=
  g_eq (f := 122) (s := 2) (fE := 132) k122 el_file xs ys hx fun x hx y hy => s_eqFile x y (h x hx)
theorem s_intactFile (x : FileL) (h : okF x) : OK Go.Proofs.Tryd.prog 121 [fileF x, fileF x] (fun _ _ r => r = .bool true) := by
  refine fn_ok k121 rfl ?_
  have e1 := s19' x.text h.2
  generalize OK Go.Proofs.Tryd.prog = L at *
  intro lo
  have r1 := fun H => rd3_of1 (r := strsF x.text) (fl := true) (H := H) rfl (by simp [strsF])
  have z1 : (strsF x.text).isAgg = false ∧ (strsF x.text).sz = 1 := ⟨rfl, rfl⟩
  simp -dsimp only [↓SD, SP, ↓reduceIte, Nat.reduceEqDiff, ini, frz, rdAo, rd3o, rd2o, rdpo, rd1o, fnv, intv, VOp.dst, getRo, solEo, solo, solo1, allsz, List.all_cons, List.all_nil, Bool.and_true, beq_self_eq_true, List.length_cons, List.length_nil, Nat.zero_add, srcv, Nat.le_refl, List.take_succ_cons, List.take_zero, and_self, if_true, Nat.reduceAdd, Nat.reduceLT, eq_self, c121, fileF]
  refine bal_mk fun b hb => ?_
  simp -dsimp only [↓SD, SP, ↓reduceIte, Nat.reduceEqDiff, ini, frz, rdAo, rd3o, rd2o, rdpo, rd1o, fnv, intv, VOp.dst, getRo, solEo, solo, solo1, allsz, List.all_cons, List.all_nil, Bool.and_true, beq_self_eq_true, List.length_cons, List.length_nil, Nat.zero_add, srcv, Nat.le_refl, List.take_succ_cons, List.take_zero, and_self, if_true, Nat.reduceAdd, Nat.reduceLT, eq_self]
  refine bal_mk fun b1 hb1 => ?_
  simp -dsimp only [↓SD, SP, ↓reduceIte, Nat.reduceEqDiff, ini, frz, rdAo, rd3o, rd2o, rdpo, rd1o, fnv, intv, VOp.dst, getRo, solEo, solo, solo1, allsz, List.all_cons, List.all_nil, Bool.and_true, beq_self_eq_true, List.length_cons, List.length_nil, Nat.zero_add, srcv, Nat.le_refl, List.take_succ_cons, List.take_zero, and_self, if_true, Nat.reduceAdd, Nat.reduceLT, eq_self, fldAv, ↓ldv_f, ↓ldv_n, ↓stv_f, ↓stv_a, fldv, setf, bldv, small, Bool.true_and, List.getElem?_cons_zero, List.getElem?_cons_succ, List.set_cons_zero, List.set_cons_succ, Bool.false_eq_true, if_false, true_and, and_true, reduceCtorEq, false_implies, implies_true, forall_const, ↓r1, z1, ↓r_any]
  refine call_rule e1 ?_
  rintro lo1 hi1 r - - rfl
  simp -dsimp only [↓SD, SP, ↓reduceIte, Nat.reduceEqDiff, ini, frz, rdAo, rd3o, rd2o, rdpo, rd1o, fnv, intv, VOp.dst, getRo, solEo, solo, solo1, allsz, List.all_cons, List.all_nil, Bool.and_true, beq_self_eq_true, List.length_cons, List.length_nil, Nat.zero_add, srcv, Nat.le_refl, List.take_succ_cons, List.take_zero, and_self, if_true, Nat.reduceAdd, Nat.reduceLT, eq_self, ↓r_any]
abbrev filesF (xs : List FileL) : AV := fullL fileF fileV fillFl xs
theorem s_intactFileS (xs : List FileL) (ho : okFs xs) : OK Go.Proofs.Tryd.prog 100 [filesF xs, filesF xs] (fun _ _ r => r = .bool true) :=
  g_in (f := 100) (s := 2) (fI := 121) (fE := 122) (fR := 47) k100 (by decide) el_file (fun x => ⟨_, rfl, rfl⟩) rd_fileF xs ho.1 (fun k hk => s54 k hk) (fun x hx => s_intactFile x (ho.2 x hx))
    (fun n hn => (s_eqFileS _ _ (by simpa using hn) (fun x hx => by rw [List.eq_of_mem_replicate hx]; decide)).weak fun _ _ r hr => by simpa using hr)
theorem files_sz (xs : List FileL) (k : Nat) (hk : k ≤ 1000000) (hw : wfFs xs) : OK Go.Proofs.Tryd.prog 87 [filesV xs, .int .i64 k] (fun _ _ r => SzR (okFs xs) k r) := s_szFileS xs k hk hw
theorem files_to (xs : List FileL) (b : Bool) (ho : okFs xs) : OK Go.Proofs.Tryd.prog 91 [filesV xs, .bool b] (fun lo hi r => ToR (filesV xs) (filesF xs) b lo hi r) :=
  (s_toFileS xs b ho).weak fun lo hi r q => ⟨q.wk fun _ _ _ _ h => h.wk, fun hb => by subst hb; exact q.wkF (e := fileV) (fx := fillFl) (fun _ h => h.wk) fun _ _ _ _ h => h.wkF, q.tin⟩
theorem files_in (xs : List FileL) (ho : okFs xs) : OK Go.Proofs.Tryd.prog 100 [filesF xs, filesF xs] (fun _ _ r => r = .bool true) := s_intactFileS xs ho
theorem files_pl (xs : List FileL) : Pl false (filesV xs) := .fld _ (pf_lv _ _)
theorem files_plF (xs : List FileL) : Pl true (filesF xs) := .fld _ (pf_full _ _ _ _)
end Go.AVM

/- Trees: the plain law. -/
set_option linter.unusedSimpArgs false
set_option linter.unusedVariables false
namespace Go.AVM
/-- of each element, by its place -/
def allI {α : Type} (p : Nat → α → Bool) (t : List α) : Bool := (List.range t.length).all fun j => ((t[j]?).map (p j)).getD true
theorem allI_iff {α : Type} {p : Nat → α → Bool} {t : List α} : allI p t = true ↔ ∀ j f, t[j]? = some f → p j f = true := by
  unfold allI
  rw [List.all_eq_true]
  constructor
  · intro h j f hf
    have hj := (List.getElem?_eq_some_iff.1 hf).1
    have := h j (List.mem_range.2 hj)
    rw [hf] at this
    exact this
  · intro h j hj
    cases hf : t[j]? with
    | none => rfl
    | some f => exact h j f hf
theorem allI_no {α : Type} {p : Nat → α → Bool} {t : List α} {j : Nat} {f : α} (hf : t[j]? = some f) (h : p j f = false) : allI p t = false := by
  cases h' : allI p t with
  | false => rfl
  | true => rw [allI_iff.1 h' j f hf] at h; cases h
theorem allI_yes {α : Type} {p : Nat → α → Bool} {t : List α} (h : ∀ j, j < t.length → ∀ f, t[j]? = some f → p j f = true) : allI p t = true :=
  allI_iff.2 fun j f hf => h j (List.getElem?_eq_some_iff.1 hf).1 f hf
def prevLt (t : List FileL) (i : Nat) (f : FileL) : Bool := decide (i = 0) || ((t[i - 1]?).map fun g => sLt g.path f.path).getD true
def okI (t : List FileL) (i : Nat) (f : FileL) : Bool := pathOk f.path && (textOk f.text && (prevLt t i f && !((t.take i).any fun o => pathIn o.path f.path)))
def okS (t : List FileL) (i : Nat) (f : FileL) : Bool := pathOk f.path && (textOk f.text && (prevLt t i f && !(t.any fun o => inB f.path o.path)))
def treeOk (t : List FileL) : Bool := allI (okI t) t && decide (t.length ≤ 8)
def treeOkS (t : List FileL) : Bool := allI (okS t) t && decide (t.length ≤ 8)
theorem asc_of {t : List FileL} (h : ∀ j f, t[j]? = some f → prevLt t j f = true) : ∀ (k i : Nat) (a b : FileL), i < k → t[i]? = some a → t[k]? = some b → sLt a.path b.path = true := by
  intro k
  induction k with
  | zero => intro i a b hi; omega
  | succ k ih =>
    intro i a b hi ha hb
    have hk := (List.getElem?_eq_some_iff.1 hb).1
    have hc : t[k]? = some t[k] := List.getElem?_eq_getElem (by omega)
    have h1 := h (k + 1) b hb
    simp only [prevLt, Nat.add_sub_cancel, hc, Option.map_some, Option.getD_some, Bool.or_eq_true, decide_eq_true_eq] at h1
    have h2 : sLt t[k].path b.path = true := by
      rcases h1 with h1 | h1
      · omega
      · exact h1
    by_cases hik : i = k
    · subst hik
      rw [hc] at ha
      obtain rfl := Option.some.inj ha
      exact h2
    · exact sLt_trans (ih i a t[k] (by omega) ha hc) h2
theorem treeOkS_eq (t : List FileL) : treeOkS t = treeOk t := by
  unfold treeOkS treeOk
  congr 1
  rw [Bool.eq_iff_iff, allI_iff, allI_iff]
  constructor
  · intro h j f hf
    have h1 := h j f hf
    simp only [okS, okI, Bool.and_eq_true, Bool.not_eq_true'] at h1 ⊢
    refine ⟨h1.1, h1.2.1, h1.2.2.1, ?_⟩
    rw [List.any_eq_false]
    intro o ho
    obtain ⟨k, hk, rfl⟩ := List.getElem_of_mem (List.mem_of_mem_take ho)
    have h2 := h k t[k] (List.getElem?_eq_getElem hk)
    simp only [okS, Bool.and_eq_true, Bool.not_eq_true'] at h2
    have h3 := List.any_eq_false.1 h2.2.2.2 f (List.mem_of_getElem? hf)
    rw [pathIn_of h1.1]
    exact h3
  · intro h j f hf
    have h1 := h j f hf
    simp only [okS, okI, Bool.and_eq_true, Bool.not_eq_true'] at h1 ⊢
    refine ⟨h1.1, h1.2.1, h1.2.2.1, ?_⟩
    have hp : ∀ j f, t[j]? = some f → prevLt t j f = true := fun j f hf => by
      have := h j f hf
      simp only [okI, Bool.and_eq_true] at this
      exact this.2.2.1
    rw [List.any_eq_false]
    intro g hg hin
    obtain ⟨k, hk, rfl⟩ := List.getElem_of_mem hg
    have hgk : t[k]? = some t[k] := List.getElem?_eq_getElem hk
    have hlt := in_lt hin
    have h2 := h k _ hgk
    simp only [okI, Bool.and_eq_true, Bool.not_eq_true'] at h2
    rcases Nat.lt_trichotomy j k with hjk | rfl | hjk
    · have hmem : f ∈ t.take k := by
        refine List.mem_of_getElem? (i := j) ?_
        rw [List.getElem?_take_of_lt hjk]
        exact hf
      have h3 := List.any_eq_false.1 h2.2.2.2 f hmem
      rw [pathIn_of h2.1] at h3
      exact h3 hin
    · rw [hgk] at hf
      obtain rfl := Option.some.inj hf
      rw [sLt_irrefl] at hlt
      cases hlt
    · have := asc_of hp j k _ _ hjk hgk hf
      rw [sLt_asymm this] at hlt
      cases hlt
theorem treeOk_len {t : List FileL} (h : treeOk t = true) : t.length ≤ 8 := by
  simp only [treeOk, Bool.and_eq_true, decide_eq_true_eq] at h
  exact h.2
theorem treeOk_at {t : List FileL} (h : treeOk t = true) {j : Nat} {f : FileL} (hf : t[j]? = some f) : pathOk f.path = true ∧ textOk f.text = true := by
  simp only [treeOk, Bool.and_eq_true] at h
  have := allI_iff.1 h.1 j f hf
  simp only [okI, Bool.and_eq_true] at this
  exact ⟨this.1, this.2.1⟩
theorem treeOk_asc {t : List FileL} (h : treeOk t = true) {i k : Nat} {a b : FileL} (hik : i < k) (ha : t[i]? = some a) (hb : t[k]? = some b) : sLt a.path b.path = true := by
  simp only [treeOk, Bool.and_eq_true] at h
  refine asc_of (fun j f hf => ?_) k i a b hik ha hb
  have := allI_iff.1 h.1 j f hf
  simp only [okI, Bool.and_eq_true] at this
  exact this.2.2.1
end Go.AVM

/- Trees: what TreeOk gives, both. -/
set_option linter.unusedSimpArgs false
set_option linter.unusedVariables false
namespace Go.AVM
theorem fa_o (f d b s i : Nat) : fldAv f (.optr d b s i none) = if f < s then some (.optr d b s i (some f)) else none := Eq.trans rfl rfl
theorem fa_f0 (h : FileL) : fldAv 0 (.lptr (fileV h)) = some (.lptr (.str h.path)) := by simp [fldAv, fileV, strs, AV.isAgg, AV.sz]
theorem fa_f1 (h : FileL) : fldAv 1 (.lptr (fileV h)) = some (.lptr (strs h.text)) := by simp [fldAv, fileV, strs, AV.isAgg, AV.sz]
theorem fv_f0 (h : FileL) : fldv 0 (fileV h) = some (.str h.path) := by simp [fldv, fileV, AV.isAgg]
theorem fv_f1 (h : FileL) : fldv 1 (fileV h) = some (strs h.text) := by simp [fldv, fileV, strs, AV.isAgg]
theorem sz_file (h : FileL) : (fileV h).sz = 2 := Eq.trans rfl rfl
theorem fz_file (h : FileL) : fitsz (some 2) (fileV h) = true := by simp [fitsz, fileV]
theorem stv_fl (H : Hp) (h : FileL) (d b s i : Nat) : stv H (some 2) (fileV h) (.optr d b s i none) = (H d).bind fun k0 => if k0.row = true then stvS H 2 (fileV h) d b s i else
    if k0.b = b ∧ k0.s = s ∧ k0.fz = false ∧ i < k0.xs.length ∧ 2 = 2 ∧ 2 = s then some (updH H d (some { k0 with xs := k0.xs.set i (fileV h) })) else none := stv_a H 2 _ d b s i
theorem rd_slF (H : Hp) (n : Nat) (ys : List FileL) (h : n ≤ ys.length) : rd3o false H (.lsl none n (ys.map fileV)) = some (filesV (ys.take n), []) := by
  simp [rd3o, rd2o, rdpo, rd1o, lv, h, List.map_take, Nat.min_eq_left h]
theorem sl_filesTo (H : Hp) (t : List FileL) (i : Nat) (h : i ≤ t.length) : slcv H 2 (filesV t) none (some (.int .i64 i)) = some (.lsl none i (t.map fileV)) := by
  simp [slcv, lv]
  omega
/-- slices.IndexFunc, with a closure that holds a pointer -/
theorem s_idxF (p : FileL → Bool) (f : Nat) (c : AV) (xs : List FileL) (h : xs.length ≤ 1000000) (hf : ∀ x ∈ xs, OK Go.Proofs.Tryd.prog f [fileV x, .lptr c] (fun _ _ r => r = .bool (p x))) :
    OK Go.Proofs.Tryd.prog 119 [filesV xs, .fn f [.lptr c]] (fun _ _ r => ∃ k : Int, r = .int .i64 k ∧ decide (0 ≤ k) = xs.any p) := by
  refine fn_ok k119 rfl ?_
  generalize OK Go.Proofs.Tryd.prog = L at hf ⊢
  intro lo
  simp -dsimp only [↓SD, SP, ↓reduceIte, Nat.reduceEqDiff, ini, frz, rdAo, rd3o, rd2o, rdpo, rd1o, fnv, intv, VOp.dst, getRo, solEo, solo, solo1, allsz, List.all_cons, List.all_nil, Bool.and_true, beq_self_eq_true, List.length_cons, List.length_nil, Nat.zero_add, srcv, Nat.le_refl, List.take_succ_cons, List.take_zero, and_self, if_true, Nat.reduceAdd, Nat.reduceLT, eq_self, c119, l_lv]
  refine loop_rule (fun m E H n => ∃ i : Nat, m + i = xs.length ∧ E 0 = filesV xs ∧ E 1 = .fn f [.lptr c] ∧ E 7 = .int .i64 xs.length ∧ E 8 = .int .i64 i ∧ (xs.take i).any p = false)
    (fun e E H n => (e = .exit 0 ∧ xs.any p = false) ∨ (e = .ret ∧ ∃ k : Int, E 4 = .int .i64 k ∧ decide (0 ≤ k) = xs.any p)) xs.length ⟨0, rfl, rfl, rfl, rfl, rfl, rfl⟩ ?_ ?_
  · rintro e E H n (⟨rfl, h0⟩ | ⟨rfl, k, h2, h3⟩)
    · simp -dsimp only [↓SD, SP, ↓reduceIte, Nat.reduceEqDiff, ini, frz, rdAo, rd3o, rd2o, rdpo, rd1o, fnv, intv, VOp.dst, getRo, solEo, solo, solo1, allsz, List.all_cons, List.all_nil, Bool.and_true, beq_self_eq_true, List.length_cons, List.length_nil, Nat.zero_add, srcv, Nat.le_refl, List.take_succ_cons, List.take_zero, and_self, if_true, Nat.reduceAdd, Nat.reduceLT, eq_self]
      exact ⟨_, rfl, by simp [h0]⟩
    · simp -dsimp only [↓SD, SP, ↓reduceIte, Nat.reduceEqDiff, ini, frz, rdAo, rd3o, rd2o, rdpo, rd1o, fnv, intv, VOp.dst, getRo, solEo, solo, solo1, allsz, List.all_cons, List.all_nil, Bool.and_true, beq_self_eq_true, List.length_cons, List.length_nil, Nat.zero_add, srcv, Nat.le_refl, List.take_succ_cons, List.take_zero, and_self, if_true, Nat.reduceAdd, Nat.reduceLT, eq_self, h2]
      exact ⟨_, rfl, h3⟩
  · rintro m E H n Q K ⟨i, hm, h0, h1, h7, h8, hp⟩ hQ hK
    by_cases hi : i < xs.length
    · simp -dsimp only [↓SD, SP, ↓reduceIte, Nat.reduceEqDiff, ini, frz, rdAo, rd3o, rd2o, rdpo, rd1o, fnv, intv, VOp.dst, getRo, solEo, solo, solo1, allsz, List.all_cons, List.all_nil, Bool.and_true, beq_self_eq_true, List.length_cons, List.length_nil, Nat.zero_add, srcv, Nat.le_refl, List.take_succ_cons, List.take_zero, and_self, if_true, Nat.reduceAdd, Nat.reduceLT, eq_self, h0, h1, h7, h8, Int.ofNat_lt, hi, x_lv el_file _ _ hi, ↓d_lv el_file, ↓rd_file, ↓r_any]
      refine call_rule (hf xs[i] (List.getElem_mem hi)) ?_
      rintro lo' hi' r g1 g2 rfl
      have hany : (xs.take (i + 1)).any p = p xs[i] := by
        rw [List.take_succ_eq_append_getElem hi, List.any_append, hp]
        simp
      cases hb : p xs[i]
      · simp -dsimp only [↓SD, SP, ↓reduceIte, Nat.reduceEqDiff, ini, frz, rdAo, rd3o, rd2o, rdpo, rd1o, fnv, intv, VOp.dst, getRo, solEo, solo, solo1, allsz, List.all_cons, List.all_nil, Bool.and_true, beq_self_eq_true, List.length_cons, List.length_nil, Nat.zero_add, srcv, Nat.le_refl, List.take_succ_cons, List.take_zero, and_self, if_true, Nat.reduceAdd, Nat.reduceLT, eq_self, h0, h1, h7, h8, hb, wrap64 ((i : Int) + 1) (by omega)]
        refine hK (m - 1) _ _ _ (by omega) ⟨i + 1, by omega, by first | (simp -dsimp only [↓SD, SP, ↓reduceIte, Nat.reduceEqDiff, ini, frz, rdAo, rd3o, rd2o, rdpo, rd1o, fnv, intv, VOp.dst, getRo, solEo, solo, solo1, allsz, List.all_cons, List.all_nil, Bool.and_true, beq_self_eq_true, List.length_cons, List.length_nil, Nat.zero_add, srcv, Nat.le_refl, List.take_succ_cons, List.take_zero, and_self, if_true, Nat.reduceAdd, Nat.reduceLT, eq_self, h0]; done) | (simp -dsimp only [↓SD, SP, ↓reduceIte, Nat.reduceEqDiff, ini, frz, rdAo, rd3o, rd2o, rdpo, rd1o, fnv, intv, VOp.dst, getRo, solEo, solo, solo1, allsz, List.all_cons, List.all_nil, Bool.and_true, beq_self_eq_true, List.length_cons, List.length_nil, Nat.zero_add, srcv, Nat.le_refl, List.take_succ_cons, List.take_zero, and_self, if_true, Nat.reduceAdd, Nat.reduceLT, eq_self, h0]; rfl) | rfl, by first | (simp -dsimp only [↓SD, SP, ↓reduceIte, Nat.reduceEqDiff, ini, frz, rdAo, rd3o, rd2o, rdpo, rd1o, fnv, intv, VOp.dst, getRo, solEo, solo, solo1, allsz, List.all_cons, List.all_nil, Bool.and_true, beq_self_eq_true, List.length_cons, List.length_nil, Nat.zero_add, srcv, Nat.le_refl, List.take_succ_cons, List.take_zero, and_self, if_true, Nat.reduceAdd, Nat.reduceLT, eq_self, h1]; done) | (simp -dsimp only [↓SD, SP, ↓reduceIte, Nat.reduceEqDiff, ini, frz, rdAo, rd3o, rd2o, rdpo, rd1o, fnv, intv, VOp.dst, getRo, solEo, solo, solo1, allsz, List.all_cons, List.all_nil, Bool.and_true, beq_self_eq_true, List.length_cons, List.length_nil, Nat.zero_add, srcv, Nat.le_refl, List.take_succ_cons, List.take_zero, and_self, if_true, Nat.reduceAdd, Nat.reduceLT, eq_self, h1]; rfl) | rfl, by first | (simp -dsimp only [↓SD, SP, ↓reduceIte, Nat.reduceEqDiff, ini, frz, rdAo, rd3o, rd2o, rdpo, rd1o, fnv, intv, VOp.dst, getRo, solEo, solo, solo1, allsz, List.all_cons, List.all_nil, Bool.and_true, beq_self_eq_true, List.length_cons, List.length_nil, Nat.zero_add, srcv, Nat.le_refl, List.take_succ_cons, List.take_zero, and_self, if_true, Nat.reduceAdd, Nat.reduceLT, eq_self, h7]; done) | (simp -dsimp only [↓SD, SP, ↓reduceIte, Nat.reduceEqDiff, ini, frz, rdAo, rd3o, rd2o, rdpo, rd1o, fnv, intv, VOp.dst, getRo, solEo, solo, solo1, allsz, List.all_cons, List.all_nil, Bool.and_true, beq_self_eq_true, List.length_cons, List.length_nil, Nat.zero_add, srcv, Nat.le_refl, List.take_succ_cons, List.take_zero, and_self, if_true, Nat.reduceAdd, Nat.reduceLT, eq_self, h7]; rfl) | rfl, by first | (simp -dsimp only [↓SD, SP, ↓reduceIte, Nat.reduceEqDiff, ini, frz, rdAo, rd3o, rd2o, rdpo, rd1o, fnv, intv, VOp.dst, getRo, solEo, solo, solo1, allsz, List.all_cons, List.all_nil, Bool.and_true, beq_self_eq_true, List.length_cons, List.length_nil, Nat.zero_add, srcv, Nat.le_refl, List.take_succ_cons, List.take_zero, and_self, if_true, Nat.reduceAdd, Nat.reduceLT, eq_self, Int.natCast_add, Int.natCast_one]; done) | (simp -dsimp only [↓SD, SP, ↓reduceIte, Nat.reduceEqDiff, ini, frz, rdAo, rd3o, rd2o, rdpo, rd1o, fnv, intv, VOp.dst, getRo, solEo, solo, solo1, allsz, List.all_cons, List.all_nil, Bool.and_true, beq_self_eq_true, List.length_cons, List.length_nil, Nat.zero_add, srcv, Nat.le_refl, List.take_succ_cons, List.take_zero, and_self, if_true, Nat.reduceAdd, Nat.reduceLT, eq_self, Int.natCast_add, Int.natCast_one]; rfl) | rfl, by rw [hany, hb]⟩
      · simp -dsimp only [↓SD, SP, ↓reduceIte, Nat.reduceEqDiff, ini, frz, rdAo, rd3o, rd2o, rdpo, rd1o, fnv, intv, VOp.dst, getRo, solEo, solo, solo1, allsz, List.all_cons, List.all_nil, Bool.and_true, beq_self_eq_true, List.length_cons, List.length_nil, Nat.zero_add, srcv, Nat.le_refl, List.take_succ_cons, List.take_zero, and_self, if_true, Nat.reduceAdd, Nat.reduceLT, eq_self, h0, h1, h7, h8, hb]
        refine hQ _ _ _ _ (.inr ⟨rfl, (i : Int), ?_, ?_⟩)
        · simp -dsimp only [↓SD, SP, ↓reduceIte, Nat.reduceEqDiff, ini, frz, rdAo, rd3o, rd2o, rdpo, rd1o, fnv, intv, VOp.dst, getRo, solEo, solo, solo1, allsz, List.all_cons, List.all_nil, Bool.and_true, beq_self_eq_true, List.length_cons, List.length_nil, Nat.zero_add, srcv, Nat.le_refl, List.take_succ_cons, List.take_zero, and_self, if_true, Nat.reduceAdd, Nat.reduceLT, eq_self, h8]
        · rw [show xs.any p = true from List.any_eq_true.2 ⟨xs[i], List.getElem_mem hi, hb⟩]
          simp
    · simp -dsimp only [↓SD, SP, ↓reduceIte, Nat.reduceEqDiff, ini, frz, rdAo, rd3o, rd2o, rdpo, rd1o, fnv, intv, VOp.dst, getRo, solEo, solo, solo1, allsz, List.all_cons, List.all_nil, Bool.and_true, beq_self_eq_true, List.length_cons, List.length_nil, Nat.zero_add, srcv, Nat.le_refl, List.take_succ_cons, List.take_zero, and_self, if_true, Nat.reduceAdd, Nat.reduceLT, eq_self, h0, h1, h7, h8, Int.ofNat_lt, hi]
      refine hQ _ _ _ _ (.inl ⟨rfl, ?_⟩)
      rw [List.take_of_length_le (by omega)] at hp
      exact hp
/-- slices.ContainsFunc, with a closure that holds a pointer -/
theorem s_conF (p : FileL → Bool) (f : Nat) (c : AV) (xs : List FileL) (h : xs.length ≤ 1000000) (hf : ∀ x ∈ xs, OK Go.Proofs.Tryd.prog f [fileV x, .lptr c] (fun _ _ r => r = .bool (p x))) :
    OK Go.Proofs.Tryd.prog 96 [filesV xs, .fn f [.lptr c]] (fun _ _ r => r = .bool (xs.any p)) := by
  refine fn_ok k96 rfl ?_
  have hs := s_idxF p f c xs h hf
  generalize OK Go.Proofs.Tryd.prog = L at hs ⊢
  intro lo
  simp -dsimp only [↓SD, SP, ↓reduceIte, Nat.reduceEqDiff, ini, frz, rdAo, rd3o, rd2o, rdpo, rd1o, fnv, intv, VOp.dst, getRo, solEo, solo, solo1, allsz, List.all_cons, List.all_nil, Bool.and_true, beq_self_eq_true, List.length_cons, List.length_nil, Nat.zero_add, srcv, Nat.le_refl, List.take_succ_cons, List.take_zero, and_self, if_true, Nat.reduceAdd, Nat.reduceLT, eq_self, c96, ↓rd_lv, rds2o, ↓r_any]
  refine call_rule hs ?_
  rintro lo' hi' r g1 g2 ⟨k, rfl, hk⟩
  simp -dsimp only [↓SD, SP, ↓reduceIte, Nat.reduceEqDiff, ini, frz, rdAo, rd3o, rd2o, rdpo, rd1o, fnv, intv, VOp.dst, getRo, solEo, solo, solo1, allsz, List.all_cons, List.all_nil, Bool.and_true, beq_self_eq_true, List.length_cons, List.length_nil, Nat.zero_add, srcv, Nat.le_refl, List.take_succ_cons, List.take_zero, and_self, if_true, Nat.reduceAdd, Nat.reduceLT, eq_self, hk]
theorem s_treeOk1 (o f : FileL) (ho : o.path.size ≤ 1000000) (hf : f.path.size ≤ 1000000) : OK Go.Proofs.Tryd.prog 97 [fileV o, .lptr (fileV f)] (fun _ _ r => r = .bool (pathIn o.path f.path)) := by
  refine fn_ok k97 rfl ?_
  have h1 := s_implPathIn o.path f.path ho hf
  generalize OK Go.Proofs.Tryd.prog = L at *
  intro lo
  simp -dsimp only [↓SD, SP, ↓reduceIte, Nat.reduceEqDiff, ini, frz, rdAo, rd3o, rd2o, rdpo, rd1o, fnv, intv, VOp.dst, getRo, solEo, solo, solo1, allsz, List.all_cons, List.all_nil, Bool.and_true, beq_self_eq_true, List.length_cons, List.length_nil, Nat.zero_add, srcv, Nat.le_refl, List.take_succ_cons, List.take_zero, and_self, if_true, Nat.reduceAdd, Nat.reduceLT, eq_self, c97, sz_file]
  refine bal_mk fun b hb => ?_
  simp -dsimp only [↓SD, SP, ↓reduceIte, Nat.reduceEqDiff, ini, frz, rdAo, rd3o, rd2o, rdpo, rd1o, fnv, intv, VOp.dst, getRo, solEo, solo, solo1, allsz, List.all_cons, List.all_nil, Bool.and_true, beq_self_eq_true, List.length_cons, List.length_nil, Nat.zero_add, srcv, Nat.le_refl, List.take_succ_cons, List.take_zero, and_self, if_true, Nat.reduceAdd, Nat.reduceLT, eq_self, fa_o, ↓ldv_f, ↓ldv_n, ↓stv_f, ↓stv_a, fldv, setf, bldv, small, Bool.true_and, List.getElem?_cons_zero, List.getElem?_cons_succ, List.set_cons_zero, List.set_cons_succ, Bool.false_eq_true, if_false, true_and, and_true, reduceCtorEq, false_implies, implies_true, forall_const, ↓fv_f0, ↓fv_f1, fa_f0, fa_f1]
  refine call_rule h1 ?_
  rintro lo1 hi1 r - - rfl
  simp -dsimp only [↓SD, SP, ↓reduceIte, Nat.reduceEqDiff, ini, frz, rdAo, rd3o, rd2o, rdpo, rd1o, fnv, intv, VOp.dst, getRo, solEo, solo, solo1, allsz, List.all_cons, List.all_nil, Bool.and_true, beq_self_eq_true, List.length_cons, List.length_nil, Nat.zero_add, srcv, Nat.le_refl, List.take_succ_cons, List.take_zero, and_self, if_true, Nat.reduceAdd, Nat.reduceLT, eq_self]
theorem rd_capF (H : Hp) (d b : Nat) (f : FileL) (g : Nat) {fz row ex : Bool} (h : H d = some ⟨b, 2, [fileV f], fz, row, ex⟩) : rd3o false H (.fn g [.optr d b 2 0 none]) = some (.fn g [.lptr (fileV f)], [d]) := by
  have h1 : (f.text.map AV.str).take f.text.length = f.text.map .str := List.take_of_length_le (by simp)
  simp [rd3o, rds2o, rd2o, rdpo, rdso, rd1o, h, fileV, strs, h1, AV.sz]
theorem s_implTreeOk (t : List FileL) (ht : okFs t) : OK Go.Proofs.Tryd.prog 69 [filesV t] (fun _ _ r => r = .bool (treeOk t)) := by
  refine fn_ok k69 rfl ?_
  have hp := fun s h => s_implPathOk s h
  have htx := fun xs h => s18 xs h
  have hcf := fun i (hi : i ≤ t.length) (f : FileL) (hf : f.path.size ≤ 1000000) => s_conF (fun o => pathIn o.path f.path) 97 (fileV f) (t.take i) (by simp; have := ht.1; omega) fun x hx => s_treeOk1 x f (ht.2 x (List.mem_of_mem_take hx)).1 hf
  generalize OK Go.Proofs.Tryd.prog = L at *
  intro lo
  have hlen := ht.1
  simp -dsimp only [↓SD, SP, ↓reduceIte, Nat.reduceEqDiff, ini, frz, rdAo, rd3o, rd2o, rdpo, rd1o, fnv, intv, VOp.dst, getRo, solEo, solo, solo1, allsz, List.all_cons, List.all_nil, Bool.and_true, beq_self_eq_true, List.length_cons, List.length_nil, Nat.zero_add, srcv, Nat.le_refl, List.take_succ_cons, List.take_zero, and_self, if_true, Nat.reduceAdd, Nat.reduceLT, eq_self, c69, l_lv]
  refine loop_rule (fun m E H n => ∃ i : Nat, m + i = t.length ∧ E 0 = filesV t ∧ E 5 = filesV t ∧ E 6 = .int .i64 t.length ∧ E 7 = .int .i64 i ∧ ∀ j, j < i → ∀ f, t[j]? = some f → okI t j f = true)
    (fun e E H n => (e = .exit 0 ∧ E 0 = filesV t ∧ treeOk t = decide (t.length ≤ 8)) ∨ (e = .ret ∧ E 2 = .bool (treeOk t))) t.length ⟨0, rfl, rfl, rfl, rfl, rfl, fun j h => by omega⟩ ?_ ?_
  · rintro e E H n (⟨rfl, h0, h1⟩ | ⟨rfl, h2⟩)
    · simp -dsimp only [↓SD, SP, ↓reduceIte, Nat.reduceEqDiff, ini, frz, rdAo, rd3o, rd2o, rdpo, rd1o, fnv, intv, VOp.dst, getRo, solEo, solo, solo1, allsz, List.all_cons, List.all_nil, Bool.and_true, beq_self_eq_true, List.length_cons, List.length_nil, Nat.zero_add, srcv, Nat.le_refl, List.take_succ_cons, List.take_zero, and_self, if_true, Nat.reduceAdd, Nat.reduceLT, eq_self, h0, h1, l_lv, Int.ofNat_le, show (8 : Int) = ((8 : Nat) : Int) from rfl]
    · simp -dsimp only [↓SD, SP, ↓reduceIte, Nat.reduceEqDiff, ini, frz, rdAo, rd3o, rd2o, rdpo, rd1o, fnv, intv, VOp.dst, getRo, solEo, solo, solo1, allsz, List.all_cons, List.all_nil, Bool.and_true, beq_self_eq_true, List.length_cons, List.length_nil, Nat.zero_add, srcv, Nat.le_refl, List.take_succ_cons, List.take_zero, and_self, if_true, Nat.reduceAdd, Nat.reduceLT, eq_self, h2]
  · rintro m E H n Q K ⟨i, hm, h0, h5, h6, h7, hok⟩ hQ hK
    by_cases hi : i < t.length
    · have ho := ht.2 t[i] (List.getElem_mem hi)
      have hget : t[i]? = some t[i] := List.getElem?_eq_getElem hi
      have no : okI t i t[i] = false → ∀ E H n, E 2 = .bool false → Q .ret E H n := fun h E H n h2 => hQ _ _ _ _ (.inr ⟨rfl, by rw [h2]; unfold treeOk; rw [allI_no hget h]; rfl⟩)
      have hkk : okI t i t[i] = (pathOk t[i].path && (textOk t[i].text && (prevLt t i t[i] && !((t.take i).any fun o => pathIn o.path t[i].path)))) := rfl
      have hx := x_lv el_file t i hi
      generalize t[i] = f at *
      simp -dsimp only [↓SD, SP, ↓reduceIte, Nat.reduceEqDiff, ini, frz, rdAo, rd3o, rd2o, rdpo, rd1o, fnv, intv, VOp.dst, getRo, solEo, solo, solo1, allsz, List.all_cons, List.all_nil, Bool.and_true, beq_self_eq_true, List.length_cons, List.length_nil, Nat.zero_add, srcv, Nat.le_refl, List.take_succ_cons, List.take_zero, and_self, if_true, Nat.reduceAdd, Nat.reduceLT, eq_self, h0, h5, h6, h7, Int.ofNat_lt, hi, hx, ↓d_lv el_file, ↓r_any]
      refine bal_mk fun b hb => ?_
      simp -dsimp only [↓SD, SP, ↓reduceIte, Nat.reduceEqDiff, ini, frz, rdAo, rd3o, rd2o, rdpo, rd1o, fnv, intv, VOp.dst, getRo, solEo, solo, solo1, allsz, List.all_cons, List.all_nil, Bool.and_true, beq_self_eq_true, List.length_cons, List.length_nil, Nat.zero_add, srcv, Nat.le_refl, List.take_succ_cons, List.take_zero, and_self, if_true, Nat.reduceAdd, Nat.reduceLT, eq_self, fldAv, ↓ldv_f, ↓ldv_n, ↓stv_f, ↓stv_a, fldv, setf, bldv, small, Bool.true_and, List.getElem?_cons_zero, List.getElem?_cons_succ, List.set_cons_zero, List.set_cons_succ, Bool.false_eq_true, if_false, true_and, and_true, reduceCtorEq, false_implies, implies_true, forall_const, ↓stv_fl, fz_file, sz_file, ↓fv_f0, ↓fv_f1, ↓r_any]
      refine call_rule (hp _ ho.1) ?_
      rintro lo1 hi1 r - - rfl
      cases e1 : pathOk f.path
      · simp -dsimp only [↓SD, SP, ↓reduceIte, Nat.reduceEqDiff, ini, frz, rdAo, rd3o, rd2o, rdpo, rd1o, fnv, intv, VOp.dst, getRo, solEo, solo, solo1, allsz, List.all_cons, List.all_nil, Bool.and_true, beq_self_eq_true, List.length_cons, List.length_nil, Nat.zero_add, srcv, Nat.le_refl, List.take_succ_cons, List.take_zero, and_self, if_true, Nat.reduceAdd, Nat.reduceLT, eq_self, fldAv, ↓ldv_f, ↓ldv_n, ↓stv_f, ↓stv_a, fldv, setf, bldv, small, Bool.true_and, List.getElem?_cons_zero, List.getElem?_cons_succ, List.set_cons_zero, List.set_cons_succ, Bool.false_eq_true, if_false, true_and, and_true, reduceCtorEq, false_implies, implies_true, forall_const, ↓r_any]
        refine no (by rw [hkk, e1]; rfl) _ _ _ ?_
        simp -dsimp only [↓SD, SP, ↓reduceIte, Nat.reduceEqDiff, ini, frz, rdAo, rd3o, rd2o, rdpo, rd1o, fnv, intv, VOp.dst, getRo, solEo, solo, solo1, allsz, List.all_cons, List.all_nil, Bool.and_true, beq_self_eq_true, List.length_cons, List.length_nil, Nat.zero_add, srcv, Nat.le_refl, List.take_succ_cons, List.take_zero, and_self, if_true, Nat.reduceAdd, Nat.reduceLT, eq_self]
      simp -dsimp only [↓SD, SP, ↓reduceIte, Nat.reduceEqDiff, ini, frz, rdAo, rd3o, rd2o, rdpo, rd1o, fnv, intv, VOp.dst, getRo, solEo, solo, solo1, allsz, List.all_cons, List.all_nil, Bool.and_true, beq_self_eq_true, List.length_cons, List.length_nil, Nat.zero_add, srcv, Nat.le_refl, List.take_succ_cons, List.take_zero, and_self, if_true, Nat.reduceAdd, Nat.reduceLT, eq_self, fldAv, ↓ldv_f, ↓ldv_n, ↓stv_f, ↓stv_a, fldv, setf, bldv, small, Bool.true_and, List.getElem?_cons_zero, List.getElem?_cons_succ, List.set_cons_zero, List.set_cons_succ, Bool.false_eq_true, if_false, true_and, and_true, reduceCtorEq, false_implies, implies_true, forall_const, ↓fv_f0, ↓fv_f1, ↓rd_strs, ↓r_any]
      refine call_rule (htx _ ho.2) ?_
      rintro lo2 hi2 r - - rfl
      cases e2 : textOk f.text
      · simp -dsimp only [↓SD, SP, ↓reduceIte, Nat.reduceEqDiff, ini, frz, rdAo, rd3o, rd2o, rdpo, rd1o, fnv, intv, VOp.dst, getRo, solEo, solo, solo1, allsz, List.all_cons, List.all_nil, Bool.and_true, beq_self_eq_true, List.length_cons, List.length_nil, Nat.zero_add, srcv, Nat.le_refl, List.take_succ_cons, List.take_zero, and_self, if_true, Nat.reduceAdd, Nat.reduceLT, eq_self, fldAv, ↓ldv_f, ↓ldv_n, ↓stv_f, ↓stv_a, fldv, setf, bldv, small, Bool.true_and, List.getElem?_cons_zero, List.getElem?_cons_succ, List.set_cons_zero, List.set_cons_succ, Bool.false_eq_true, if_false, true_and, and_true, reduceCtorEq, false_implies, implies_true, forall_const, ↓r_any]
        refine no (by rw [hkk, e1, e2]; rfl) _ _ _ ?_
        simp -dsimp only [↓SD, SP, ↓reduceIte, Nat.reduceEqDiff, ini, frz, rdAo, rd3o, rd2o, rdpo, rd1o, fnv, intv, VOp.dst, getRo, solEo, solo, solo1, allsz, List.all_cons, List.all_nil, Bool.and_true, beq_self_eq_true, List.length_cons, List.length_nil, Nat.zero_add, srcv, Nat.le_refl, List.take_succ_cons, List.take_zero, and_self, if_true, Nat.reduceAdd, Nat.reduceLT, eq_self]
      have rc := fun (H : Hp) (h : H 4 = some ⟨b, 2, [fileV f], false, false, false⟩) => rd_capF H 4 b f 97 h
      have x1 := fun H => sl_filesTo H t i (by omega)
      have x2 := fun H => rd_slF H i t (by omega)
      by_cases hi0 : (0 : Int) < i
      · have hj : i - 1 < t.length := by omega
        have hprev : prevLt t i f = sLt t[i - 1].path f.path := by
          simp only [prevLt, List.getElem?_eq_getElem hj, Option.map_some, Option.getD_some, show ¬ i = 0 by omega, decide_false, Bool.false_or]
        have hx1 := x_lv el_file t (i - 1) hj
        cases e3 : sLt t[i - 1].path f.path
        · simp -dsimp only [↓SD, SP, ↓reduceIte, Nat.reduceEqDiff, ini, frz, rdAo, rd3o, rd2o, rdpo, rd1o, fnv, intv, VOp.dst, getRo, solEo, solo, solo1, allsz, List.all_cons, List.all_nil, Bool.and_true, beq_self_eq_true, List.length_cons, List.length_nil, Nat.zero_add, srcv, Nat.le_refl, List.take_succ_cons, List.take_zero, and_self, if_true, Nat.reduceAdd, Nat.reduceLT, eq_self, fa_o, ↓ldv_f, ↓ldv_n, ↓stv_f, ↓stv_a, fldv, setf, bldv, small, Bool.true_and, List.getElem?_cons_zero, List.getElem?_cons_succ, List.set_cons_zero, List.set_cons_succ, Bool.false_eq_true, if_false, true_and, and_true, reduceCtorEq, false_implies, implies_true, forall_const, h0, hi0, wrap64 ((i : Int) - 1) (by omega), show (i : Int) - 1 = ((i - 1 : Nat) : Int) by omega, wrap64 ((i - 1 : Nat) : Int) (by omega), hx1, fa_f0, ↓fv_f0, v_sgeq, e3, ↓r_any]
          refine no (by rw [hkk, e1, e2, hprev, e3]; rfl) _ _ _ ?_
          simp -dsimp only [↓SD, SP, ↓reduceIte, Nat.reduceEqDiff, ini, frz, rdAo, rd3o, rd2o, rdpo, rd1o, fnv, intv, VOp.dst, getRo, solEo, solo, solo1, allsz, List.all_cons, List.all_nil, Bool.and_true, beq_self_eq_true, List.length_cons, List.length_nil, Nat.zero_add, srcv, Nat.le_refl, List.take_succ_cons, List.take_zero, and_self, if_true, Nat.reduceAdd, Nat.reduceLT, eq_self]
        · simp -dsimp only [↓SD, SP, ↓reduceIte, Nat.reduceEqDiff, ini, frz, rdAo, rd3o, rd2o, rdpo, rd1o, fnv, intv, VOp.dst, getRo, solEo, solo, solo1, allsz, List.all_cons, List.all_nil, Bool.and_true, beq_self_eq_true, List.length_cons, List.length_nil, Nat.zero_add, srcv, Nat.le_refl, List.take_succ_cons, List.take_zero, and_self, if_true, Nat.reduceAdd, Nat.reduceLT, eq_self, fa_o, ↓ldv_f, ↓ldv_n, ↓stv_f, ↓stv_a, fldv, setf, bldv, small, Bool.true_and, List.getElem?_cons_zero, List.getElem?_cons_succ, List.set_cons_zero, List.set_cons_succ, Bool.false_eq_true, if_false, true_and, and_true, reduceCtorEq, false_implies, implies_true, forall_const, h0, h5, h7, hi0, wrap64 ((i : Int) - 1) (by omega), show (i : Int) - 1 = ((i - 1 : Nat) : Int) by omega, wrap64 ((i - 1 : Nat) : Int) (by omega), hx1, fa_f0, ↓fv_f0, v_sgeq, e3, ↓r_any, x1, ↓x2, mkfv, ↓rc]
          refine call_rule (hcf i (by omega) f ho.1) ?_
          rintro lo3 hi3 r p3 p4 rfl
          cases e4 : (t.take i).any fun o => pathIn o.path f.path
          · simp -dsimp only [↓SD, SP, ↓reduceIte, Nat.reduceEqDiff, ini, frz, rdAo, rd3o, rd2o, rdpo, rd1o, fnv, intv, VOp.dst, getRo, solEo, solo, solo1, allsz, List.all_cons, List.all_nil, Bool.and_true, beq_self_eq_true, List.length_cons, List.length_nil, Nat.zero_add, srcv, Nat.le_refl, List.take_succ_cons, List.take_zero, and_self, if_true, Nat.reduceAdd, Nat.reduceLT, eq_self, ↓r_any, h7, wrap64 ((i : Int) + 1) (by omega)]
            refine hK (m - 1) _ _ _ (by omega) ⟨i + 1, by omega, by first | (simp -dsimp only [↓SD, SP, ↓reduceIte, Nat.reduceEqDiff, ini, frz, rdAo, rd3o, rd2o, rdpo, rd1o, fnv, intv, VOp.dst, getRo, solEo, solo, solo1, allsz, List.all_cons, List.all_nil, Bool.and_true, beq_self_eq_true, List.length_cons, List.length_nil, Nat.zero_add, srcv, Nat.le_refl, List.take_succ_cons, List.take_zero, and_self, if_true, Nat.reduceAdd, Nat.reduceLT, eq_self, h0]; done) | (simp -dsimp only [↓SD, SP, ↓reduceIte, Nat.reduceEqDiff, ini, frz, rdAo, rd3o, rd2o, rdpo, rd1o, fnv, intv, VOp.dst, getRo, solEo, solo, solo1, allsz, List.all_cons, List.all_nil, Bool.and_true, beq_self_eq_true, List.length_cons, List.length_nil, Nat.zero_add, srcv, Nat.le_refl, List.take_succ_cons, List.take_zero, and_self, if_true, Nat.reduceAdd, Nat.reduceLT, eq_self, h0]; rfl) | rfl, by first | (simp -dsimp only [↓SD, SP, ↓reduceIte, Nat.reduceEqDiff, ini, frz, rdAo, rd3o, rd2o, rdpo, rd1o, fnv, intv, VOp.dst, getRo, solEo, solo, solo1, allsz, List.all_cons, List.all_nil, Bool.and_true, beq_self_eq_true, List.length_cons, List.length_nil, Nat.zero_add, srcv, Nat.le_refl, List.take_succ_cons, List.take_zero, and_self, if_true, Nat.reduceAdd, Nat.reduceLT, eq_self, h5]; done) | (simp -dsimp only [↓SD, SP, ↓reduceIte, Nat.reduceEqDiff, ini, frz, rdAo, rd3o, rd2o, rdpo, rd1o, fnv, intv, VOp.dst, getRo, solEo, solo, solo1, allsz, List.all_cons, List.all_nil, Bool.and_true, beq_self_eq_true, List.length_cons, List.length_nil, Nat.zero_add, srcv, Nat.le_refl, List.take_succ_cons, List.take_zero, and_self, if_true, Nat.reduceAdd, Nat.reduceLT, eq_self, h5]; rfl) | rfl, by first | (simp -dsimp only [↓SD, SP, ↓reduceIte, Nat.reduceEqDiff, ini, frz, rdAo, rd3o, rd2o, rdpo, rd1o, fnv, intv, VOp.dst, getRo, solEo, solo, solo1, allsz, List.all_cons, List.all_nil, Bool.and_true, beq_self_eq_true, List.length_cons, List.length_nil, Nat.zero_add, srcv, Nat.le_refl, List.take_succ_cons, List.take_zero, and_self, if_true, Nat.reduceAdd, Nat.reduceLT, eq_self, h6]; done) | (simp -dsimp only [↓SD, SP, ↓reduceIte, Nat.reduceEqDiff, ini, frz, rdAo, rd3o, rd2o, rdpo, rd1o, fnv, intv, VOp.dst, getRo, solEo, solo, solo1, allsz, List.all_cons, List.all_nil, Bool.and_true, beq_self_eq_true, List.length_cons, List.length_nil, Nat.zero_add, srcv, Nat.le_refl, List.take_succ_cons, List.take_zero, and_self, if_true, Nat.reduceAdd, Nat.reduceLT, eq_self, h6]; rfl) | rfl, by first | (simp -dsimp only [↓SD, SP, ↓reduceIte, Nat.reduceEqDiff, ini, frz, rdAo, rd3o, rd2o, rdpo, rd1o, fnv, intv, VOp.dst, getRo, solEo, solo, solo1, allsz, List.all_cons, List.all_nil, Bool.and_true, beq_self_eq_true, List.length_cons, List.length_nil, Nat.zero_add, srcv, Nat.le_refl, List.take_succ_cons, List.take_zero, and_self, if_true, Nat.reduceAdd, Nat.reduceLT, eq_self, Int.natCast_add, Int.natCast_one]; done) | (simp -dsimp only [↓SD, SP, ↓reduceIte, Nat.reduceEqDiff, ini, frz, rdAo, rd3o, rd2o, rdpo, rd1o, fnv, intv, VOp.dst, getRo, solEo, solo, solo1, allsz, List.all_cons, List.all_nil, Bool.and_true, beq_self_eq_true, List.length_cons, List.length_nil, Nat.zero_add, srcv, Nat.le_refl, List.take_succ_cons, List.take_zero, and_self, if_true, Nat.reduceAdd, Nat.reduceLT, eq_self, Int.natCast_add, Int.natCast_one]; rfl) | rfl, fun j hj g hg => ?_⟩
            rcases Nat.lt_or_ge j i with h' | h'
            · exact hok j h' g hg
            · obtain rfl : j = i := by omega
              rw [hget] at hg
              obtain rfl := Option.some.inj hg
              rw [hkk, e1, e2, hprev, e3, e4]
              rfl
          · simp -dsimp only [↓SD, SP, ↓reduceIte, Nat.reduceEqDiff, ini, frz, rdAo, rd3o, rd2o, rdpo, rd1o, fnv, intv, VOp.dst, getRo, solEo, solo, solo1, allsz, List.all_cons, List.all_nil, Bool.and_true, beq_self_eq_true, List.length_cons, List.length_nil, Nat.zero_add, srcv, Nat.le_refl, List.take_succ_cons, List.take_zero, and_self, if_true, Nat.reduceAdd, Nat.reduceLT, eq_self, ↓r_any]
            refine no (by rw [hkk, e1, e2, hprev, e3, e4]; rfl) _ _ _ ?_
            simp -dsimp only [↓SD, SP, ↓reduceIte, Nat.reduceEqDiff, ini, frz, rdAo, rd3o, rd2o, rdpo, rd1o, fnv, intv, VOp.dst, getRo, solEo, solo, solo1, allsz, List.all_cons, List.all_nil, Bool.and_true, beq_self_eq_true, List.length_cons, List.length_nil, Nat.zero_add, srcv, Nat.le_refl, List.take_succ_cons, List.take_zero, and_self, if_true, Nat.reduceAdd, Nat.reduceLT, eq_self]
      · have hprev : prevLt t i f = true := by
          simp only [prevLt, show i = 0 by omega, decide_true, Bool.true_or]
        simp -dsimp only [↓SD, SP, ↓reduceIte, Nat.reduceEqDiff, ini, frz, rdAo, rd3o, rd2o, rdpo, rd1o, fnv, intv, VOp.dst, getRo, solEo, solo, solo1, allsz, List.all_cons, List.all_nil, Bool.and_true, beq_self_eq_true, List.length_cons, List.length_nil, Nat.zero_add, srcv, Nat.le_refl, List.take_succ_cons, List.take_zero, and_self, if_true, Nat.reduceAdd, Nat.reduceLT, eq_self, fa_o, ↓ldv_f, ↓ldv_n, ↓stv_f, ↓stv_a, fldv, setf, bldv, small, Bool.true_and, List.getElem?_cons_zero, List.getElem?_cons_succ, List.set_cons_zero, List.set_cons_succ, Bool.false_eq_true, if_false, true_and, and_true, reduceCtorEq, false_implies, implies_true, forall_const, h0, h5, h7, hi0, ↓r_any, x1, ↓x2, mkfv, ↓rc]
        refine call_rule (hcf i (by omega) f ho.1) ?_
        rintro lo3 hi3 r p3 p4 rfl
        cases e4 : (t.take i).any fun o => pathIn o.path f.path
        · simp -dsimp only [↓SD, SP, ↓reduceIte, Nat.reduceEqDiff, ini, frz, rdAo, rd3o, rd2o, rdpo, rd1o, fnv, intv, VOp.dst, getRo, solEo, solo, solo1, allsz, List.all_cons, List.all_nil, Bool.and_true, beq_self_eq_true, List.length_cons, List.length_nil, Nat.zero_add, srcv, Nat.le_refl, List.take_succ_cons, List.take_zero, and_self, if_true, Nat.reduceAdd, Nat.reduceLT, eq_self, ↓r_any, h7, wrap64 ((i : Int) + 1) (by omega)]
          refine hK (m - 1) _ _ _ (by omega) ⟨i + 1, by omega, by first | (simp -dsimp only [↓SD, SP, ↓reduceIte, Nat.reduceEqDiff, ini, frz, rdAo, rd3o, rd2o, rdpo, rd1o, fnv, intv, VOp.dst, getRo, solEo, solo, solo1, allsz, List.all_cons, List.all_nil, Bool.and_true, beq_self_eq_true, List.length_cons, List.length_nil, Nat.zero_add, srcv, Nat.le_refl, List.take_succ_cons, List.take_zero, and_self, if_true, Nat.reduceAdd, Nat.reduceLT, eq_self, h0]; done) | (simp -dsimp only [↓SD, SP, ↓reduceIte, Nat.reduceEqDiff, ini, frz, rdAo, rd3o, rd2o, rdpo, rd1o, fnv, intv, VOp.dst, getRo, solEo, solo, solo1, allsz, List.all_cons, List.all_nil, Bool.and_true, beq_self_eq_true, List.length_cons, List.length_nil, Nat.zero_add, srcv, Nat.le_refl, List.take_succ_cons, List.take_zero, and_self, if_true, Nat.reduceAdd, Nat.reduceLT, eq_self, h0]; rfl) | rfl, by first | (simp -dsimp only [↓SD, SP, ↓reduceIte, Nat.reduceEqDiff, ini, frz, rdAo, rd3o, rd2o, rdpo, rd1o, fnv, intv, VOp.dst, getRo, solEo, solo, solo1, allsz, List.all_cons, List.all_nil, Bool.and_true, beq_self_eq_true, List.length_cons, List.length_nil, Nat.zero_add, srcv, Nat.le_refl, List.take_succ_cons, List.take_zero, and_self, if_true, Nat.reduceAdd, Nat.reduceLT, eq_self, h5]; done) | (simp -dsimp only [↓SD, SP, ↓reduceIte, Nat.reduceEqDiff, ini, frz, rdAo, rd3o, rd2o, rdpo, rd1o, fnv, intv, VOp.dst, getRo, solEo, solo, solo1, allsz, List.all_cons, List.all_nil, Bool.and_true, beq_self_eq_true, List.length_cons, List.length_nil, Nat.zero_add, srcv, Nat.le_refl, List.take_succ_cons, List.take_zero, and_self, if_true, Nat.reduceAdd, Nat.reduceLT, eq_self, h5]; rfl) | rfl, by first | (simp -dsimp only [↓SD, SP, ↓reduceIte, Nat.reduceEqDiff, ini, frz, rdAo, rd3o, rd2o, rdpo, rd1o, fnv, intv, VOp.dst, getRo, solEo, solo, solo1, allsz, List.all_cons, List.all_nil, Bool.and_true, beq_self_eq_true, List.length_cons, List.length_nil, Nat.zero_add, srcv, Nat.le_refl, List.take_succ_cons, List.take_zero, and_self, if_true, Nat.reduceAdd, Nat.reduceLT, eq_self, h6]; done) | (simp -dsimp only [↓SD, SP, ↓reduceIte, Nat.reduceEqDiff, ini, frz, rdAo, rd3o, rd2o, rdpo, rd1o, fnv, intv, VOp.dst, getRo, solEo, solo, solo1, allsz, List.all_cons, List.all_nil, Bool.and_true, beq_self_eq_true, List.length_cons, List.length_nil, Nat.zero_add, srcv, Nat.le_refl, List.take_succ_cons, List.take_zero, and_self, if_true, Nat.reduceAdd, Nat.reduceLT, eq_self, h6]; rfl) | rfl, by first | (simp -dsimp only [↓SD, SP, ↓reduceIte, Nat.reduceEqDiff, ini, frz, rdAo, rd3o, rd2o, rdpo, rd1o, fnv, intv, VOp.dst, getRo, solEo, solo, solo1, allsz, List.all_cons, List.all_nil, Bool.and_true, beq_self_eq_true, List.length_cons, List.length_nil, Nat.zero_add, srcv, Nat.le_refl, List.take_succ_cons, List.take_zero, and_self, if_true, Nat.reduceAdd, Nat.reduceLT, eq_self, Int.natCast_add, Int.natCast_one]; done) | (simp -dsimp only [↓SD, SP, ↓reduceIte, Nat.reduceEqDiff, ini, frz, rdAo, rd3o, rd2o, rdpo, rd1o, fnv, intv, VOp.dst, getRo, solEo, solo, solo1, allsz, List.all_cons, List.all_nil, Bool.and_true, beq_self_eq_true, List.length_cons, List.length_nil, Nat.zero_add, srcv, Nat.le_refl, List.take_succ_cons, List.take_zero, and_self, if_true, Nat.reduceAdd, Nat.reduceLT, eq_self, Int.natCast_add, Int.natCast_one]; rfl) | rfl, fun j hj g hg => ?_⟩
          rcases Nat.lt_or_ge j i with h' | h'
          · exact hok j h' g hg
          · obtain rfl : j = i := by omega
            rw [hget] at hg
            obtain rfl := Option.some.inj hg
            rw [hkk, e1, e2, hprev, e4]
            rfl
        · simp -dsimp only [↓SD, SP, ↓reduceIte, Nat.reduceEqDiff, ini, frz, rdAo, rd3o, rd2o, rdpo, rd1o, fnv, intv, VOp.dst, getRo, solEo, solo, solo1, allsz, List.all_cons, List.all_nil, Bool.and_true, beq_self_eq_true, List.length_cons, List.length_nil, Nat.zero_add, srcv, Nat.le_refl, List.take_succ_cons, List.take_zero, and_self, if_true, Nat.reduceAdd, Nat.reduceLT, eq_self, ↓r_any]
          refine no (by rw [hkk, e1, e2, hprev, e4]; rfl) _ _ _ ?_
          simp -dsimp only [↓SD, SP, ↓reduceIte, Nat.reduceEqDiff, ini, frz, rdAo, rd3o, rd2o, rdpo, rd1o, fnv, intv, VOp.dst, getRo, solEo, solo, solo1, allsz, List.all_cons, List.all_nil, Bool.and_true, beq_self_eq_true, List.length_cons, List.length_nil, Nat.zero_add, srcv, Nat.le_refl, List.take_succ_cons, List.take_zero, and_self, if_true, Nat.reduceAdd, Nat.reduceLT, eq_self]
    · simp -dsimp only [↓SD, SP, ↓reduceIte, Nat.reduceEqDiff, ini, frz, rdAo, rd3o, rd2o, rdpo, rd1o, fnv, intv, VOp.dst, getRo, solEo, solo, solo1, allsz, List.all_cons, List.all_nil, Bool.and_true, beq_self_eq_true, List.length_cons, List.length_nil, Nat.zero_add, srcv, Nat.le_refl, List.take_succ_cons, List.take_zero, and_self, if_true, Nat.reduceAdd, Nat.reduceLT, eq_self, h0, h5, h6, h7, Int.ofNat_lt, hi]
      exact hQ _ _ _ _ (.inl ⟨rfl, h0, by unfold treeOk; rw [allI_yes (fun j hj f hf => hok j (by omega) f hf), Bool.true_and]⟩)
theorem s_l4Ok (t : List FileL) (ht : okFs t) : OK Go.Proofs.Tryd.prog 61 [filesV t] (fun _ _ r => r = .bool (treeOk t)) := by
  refine fn_ok k61 rfl ?_
  have hp := fun s h => s_l4Path s h
  have htx := fun xs h => s53 xs h
  have hin := fun d p h h' => s_l4In d p h h'
  generalize OK Go.Proofs.Tryd.prog = L at *
  intro lo
  have hlen := ht.1
  rw [← treeOkS_eq]
  simp -dsimp only [↓SD, SP, ↓reduceIte, Nat.reduceEqDiff, ini, frz, rdAo, rd3o, rd2o, rdpo, rd1o, fnv, intv, VOp.dst, getRo, solEo, solo, solo1, allsz, List.all_cons, List.all_nil, Bool.and_true, beq_self_eq_true, List.length_cons, List.length_nil, Nat.zero_add, srcv, Nat.le_refl, List.take_succ_cons, List.take_zero, and_self, if_true, Nat.reduceAdd, Nat.reduceLT, eq_self, c61]
  refine loop_rule (fun m E H n => ∃ i : Nat, m + i = t.length ∧ E 0 = filesV t ∧ E 3 = .int .i64 i ∧ ∀ j, j < i → ∀ f, t[j]? = some f → okS t j f = true)
    (fun e E H n => (e = .exit 0 ∧ E 0 = filesV t ∧ treeOkS t = decide (t.length ≤ 8)) ∨ (e = .ret ∧ E 2 = .bool (treeOkS t))) t.length ⟨0, rfl, rfl, rfl, fun j h => by omega⟩ ?_ ?_
  · rintro e E H n (⟨rfl, h0, h1⟩ | ⟨rfl, h2⟩)
    · simp -dsimp only [↓SD, SP, ↓reduceIte, Nat.reduceEqDiff, ini, frz, rdAo, rd3o, rd2o, rdpo, rd1o, fnv, intv, VOp.dst, getRo, solEo, solo, solo1, allsz, List.all_cons, List.all_nil, Bool.and_true, beq_self_eq_true, List.length_cons, List.length_nil, Nat.zero_add, srcv, Nat.le_refl, List.take_succ_cons, List.take_zero, and_self, if_true, Nat.reduceAdd, Nat.reduceLT, eq_self, h0, h1, l_lv, Int.ofNat_le, show (8 : Int) = ((8 : Nat) : Int) from rfl]
    · simp -dsimp only [↓SD, SP, ↓reduceIte, Nat.reduceEqDiff, ini, frz, rdAo, rd3o, rd2o, rdpo, rd1o, fnv, intv, VOp.dst, getRo, solEo, solo, solo1, allsz, List.all_cons, List.all_nil, Bool.and_true, beq_self_eq_true, List.length_cons, List.length_nil, Nat.zero_add, srcv, Nat.le_refl, List.take_succ_cons, List.take_zero, and_self, if_true, Nat.reduceAdd, Nat.reduceLT, eq_self, h2]
  · rintro m E H n Q K ⟨i, hm, h0, h3, hok⟩ hQ hK
    by_cases hi : i < t.length
    · have ho := ht.2 t[i] (List.getElem_mem hi)
      have hget : t[i]? = some t[i] := List.getElem?_eq_getElem hi
      have no : okS t i t[i] = false → ∀ E H n, E 2 = .bool false → Q .ret E H n := fun h E H n h2 => hQ _ _ _ _ (.inr ⟨rfl, by rw [h2]; unfold treeOkS; rw [allI_no hget h]; rfl⟩)
      have hkk : okS t i t[i] = (pathOk t[i].path && (textOk t[i].text && (prevLt t i t[i] && !(t.any fun o => inB t[i].path o.path)))) := rfl
      have hx := x_lv el_file t i hi
      generalize t[i] = f at *
      simp -dsimp only [↓SD, SP, ↓reduceIte, Nat.reduceEqDiff, ini, frz, rdAo, rd3o, rd2o, rdpo, rd1o, fnv, intv, VOp.dst, getRo, solEo, solo, solo1, allsz, List.all_cons, List.all_nil, Bool.and_true, beq_self_eq_true, List.length_cons, List.length_nil, Nat.zero_add, srcv, Nat.le_refl, List.take_succ_cons, List.take_zero, and_self, if_true, Nat.reduceAdd, Nat.reduceLT, eq_self, h0, h3, l_lv, Int.ofNat_lt, hi, hx, fa_f0, ↓r_any]
      refine call_rule (hp _ ho.1) ?_
      rintro lo1 hi1 r - - rfl
      cases e1 : pathOk f.path
      · simp -dsimp only [↓SD, SP, ↓reduceIte, Nat.reduceEqDiff, ini, frz, rdAo, rd3o, rd2o, rdpo, rd1o, fnv, intv, VOp.dst, getRo, solEo, solo, solo1, allsz, List.all_cons, List.all_nil, Bool.and_true, beq_self_eq_true, List.length_cons, List.length_nil, Nat.zero_add, srcv, Nat.le_refl, List.take_succ_cons, List.take_zero, and_self, if_true, Nat.reduceAdd, Nat.reduceLT, eq_self, ↓r_any]
        refine no (by rw [hkk, e1]; rfl) _ _ _ ?_
        simp -dsimp only [↓SD, SP, ↓reduceIte, Nat.reduceEqDiff, ini, frz, rdAo, rd3o, rd2o, rdpo, rd1o, fnv, intv, VOp.dst, getRo, solEo, solo, solo1, allsz, List.all_cons, List.all_nil, Bool.and_true, beq_self_eq_true, List.length_cons, List.length_nil, Nat.zero_add, srcv, Nat.le_refl, List.take_succ_cons, List.take_zero, and_self, if_true, Nat.reduceAdd, Nat.reduceLT, eq_self]
      simp -dsimp only [↓SD, SP, ↓reduceIte, Nat.reduceEqDiff, ini, frz, rdAo, rd3o, rd2o, rdpo, rd1o, fnv, intv, VOp.dst, getRo, solEo, solo, solo1, allsz, List.all_cons, List.all_nil, Bool.and_true, beq_self_eq_true, List.length_cons, List.length_nil, Nat.zero_add, srcv, Nat.le_refl, List.take_succ_cons, List.take_zero, and_self, if_true, Nat.reduceAdd, Nat.reduceLT, eq_self, h0, h3, hx, fa_f1, ↓rd_strs, ↓r_any]
      refine call_rule (htx _ ho.2) ?_
      rintro lo2 hi2 r - - rfl
      cases e2 : textOk f.text
      · simp -dsimp only [↓SD, SP, ↓reduceIte, Nat.reduceEqDiff, ini, frz, rdAo, rd3o, rd2o, rdpo, rd1o, fnv, intv, VOp.dst, getRo, solEo, solo, solo1, allsz, List.all_cons, List.all_nil, Bool.and_true, beq_self_eq_true, List.length_cons, List.length_nil, Nat.zero_add, srcv, Nat.le_refl, List.take_succ_cons, List.take_zero, and_self, if_true, Nat.reduceAdd, Nat.reduceLT, eq_self, ↓r_any]
        refine no (by rw [hkk, e1, e2]; rfl) _ _ _ ?_
        simp -dsimp only [↓SD, SP, ↓reduceIte, Nat.reduceEqDiff, ini, frz, rdAo, rd3o, rd2o, rdpo, rd1o, fnv, intv, VOp.dst, getRo, solEo, solo, solo1, allsz, List.all_cons, List.all_nil, Bool.and_true, beq_self_eq_true, List.length_cons, List.length_nil, Nat.zero_add, srcv, Nat.le_refl, List.take_succ_cons, List.take_zero, and_self, if_true, Nat.reduceAdd, Nat.reduceLT, eq_self]
      by_cases hi0 : (0 : Int) < i
      · have hj : i - 1 < t.length := by omega
        have hprev : prevLt t i f = sLt t[i - 1].path f.path := by
          simp only [prevLt, List.getElem?_eq_getElem hj, Option.map_some, Option.getD_some, show ¬ i = 0 by omega, decide_false, Bool.false_or]
        have hx1 := x_lv el_file t (i - 1) hj
        cases e3 : sLt t[i - 1].path f.path
        · simp -dsimp only [↓SD, SP, ↓reduceIte, Nat.reduceEqDiff, ini, frz, rdAo, rd3o, rd2o, rdpo, rd1o, fnv, intv, VOp.dst, getRo, solEo, solo, solo1, allsz, List.all_cons, List.all_nil, Bool.and_true, beq_self_eq_true, List.length_cons, List.length_nil, Nat.zero_add, srcv, Nat.le_refl, List.take_succ_cons, List.take_zero, and_self, if_true, Nat.reduceAdd, Nat.reduceLT, eq_self, h0, h3, hi0, wrap64 ((i : Int) - 1) (by omega), show (i : Int) - 1 = ((i - 1 : Nat) : Int) by omega, wrap64 ((i - 1 : Nat) : Int) (by omega), hx, hx1, fa_f0, v_sleq, e3, ↓r_any]
          refine no (by rw [hkk, e1, e2, hprev, e3]; rfl) _ _ _ ?_
          simp -dsimp only [↓SD, SP, ↓reduceIte, Nat.reduceEqDiff, ini, frz, rdAo, rd3o, rd2o, rdpo, rd1o, fnv, intv, VOp.dst, getRo, solEo, solo, solo1, allsz, List.all_cons, List.all_nil, Bool.and_true, beq_self_eq_true, List.length_cons, List.length_nil, Nat.zero_add, srcv, Nat.le_refl, List.take_succ_cons, List.take_zero, and_self, if_true, Nat.reduceAdd, Nat.reduceLT, eq_self]
        · simp -dsimp only [↓SD, SP, ↓reduceIte, Nat.reduceEqDiff, ini, frz, rdAo, rd3o, rd2o, rdpo, rd1o, fnv, intv, VOp.dst, getRo, solEo, solo, solo1, allsz, List.all_cons, List.all_nil, Bool.and_true, beq_self_eq_true, List.length_cons, List.length_nil, Nat.zero_add, srcv, Nat.le_refl, List.take_succ_cons, List.take_zero, and_self, if_true, Nat.reduceAdd, Nat.reduceLT, eq_self, h0, h3, hi0, wrap64 ((i : Int) - 1) (by omega), show (i : Int) - 1 = ((i - 1 : Nat) : Int) by omega, wrap64 ((i - 1 : Nat) : Int) (by omega), hx, hx1, fa_f0, v_sleq, e3, ↓r_any]
          refine loop_rule (fun m E H n => ∃ k : Nat, m + k = t.length ∧ E 0 = filesV t ∧ E 3 = .int .i64 i ∧ E 4 = .int .i64 k ∧ ((t.take k).any fun o => inB f.path o.path) = false)
            (fun e E H n => (e = .exit 2 ∧ E 0 = filesV t ∧ E 3 = .int .i64 i ∧ (t.any fun o => inB f.path o.path) = false) ∨ (e = .ret ∧ E 2 = .bool false ∧ (t.any fun o => inB f.path o.path) = true)) t.length ⟨0, rfl, by first | (simp -dsimp only [↓SD, SP, ↓reduceIte, Nat.reduceEqDiff, ini, frz, rdAo, rd3o, rd2o, rdpo, rd1o, fnv, intv, VOp.dst, getRo, solEo, solo, solo1, allsz, List.all_cons, List.all_nil, Bool.and_true, beq_self_eq_true, List.length_cons, List.length_nil, Nat.zero_add, srcv, Nat.le_refl, List.take_succ_cons, List.take_zero, and_self, if_true, Nat.reduceAdd, Nat.reduceLT, eq_self, h0]; done) | (simp -dsimp only [↓SD, SP, ↓reduceIte, Nat.reduceEqDiff, ini, frz, rdAo, rd3o, rd2o, rdpo, rd1o, fnv, intv, VOp.dst, getRo, solEo, solo, solo1, allsz, List.all_cons, List.all_nil, Bool.and_true, beq_self_eq_true, List.length_cons, List.length_nil, Nat.zero_add, srcv, Nat.le_refl, List.take_succ_cons, List.take_zero, and_self, if_true, Nat.reduceAdd, Nat.reduceLT, eq_self, h0]; rfl) | rfl, by first | (simp -dsimp only [↓SD, SP, ↓reduceIte, Nat.reduceEqDiff, ini, frz, rdAo, rd3o, rd2o, rdpo, rd1o, fnv, intv, VOp.dst, getRo, solEo, solo, solo1, allsz, List.all_cons, List.all_nil, Bool.and_true, beq_self_eq_true, List.length_cons, List.length_nil, Nat.zero_add, srcv, Nat.le_refl, List.take_succ_cons, List.take_zero, and_self, if_true, Nat.reduceAdd, Nat.reduceLT, eq_self, h3]; done) | (simp -dsimp only [↓SD, SP, ↓reduceIte, Nat.reduceEqDiff, ini, frz, rdAo, rd3o, rd2o, rdpo, rd1o, fnv, intv, VOp.dst, getRo, solEo, solo, solo1, allsz, List.all_cons, List.all_nil, Bool.and_true, beq_self_eq_true, List.length_cons, List.length_nil, Nat.zero_add, srcv, Nat.le_refl, List.take_succ_cons, List.take_zero, and_self, if_true, Nat.reduceAdd, Nat.reduceLT, eq_self, h3]; rfl) | rfl, by first | (simp -dsimp only [↓SD, SP, ↓reduceIte, Nat.reduceEqDiff, ini, frz, rdAo, rd3o, rd2o, rdpo, rd1o, fnv, intv, VOp.dst, getRo, solEo, solo, solo1, allsz, List.all_cons, List.all_nil, Bool.and_true, beq_self_eq_true, List.length_cons, List.length_nil, Nat.zero_add, srcv, Nat.le_refl, List.take_succ_cons, List.take_zero, and_self, if_true, Nat.reduceAdd, Nat.reduceLT, eq_self]; done) | (simp -dsimp only [↓SD, SP, ↓reduceIte, Nat.reduceEqDiff, ini, frz, rdAo, rd3o, rd2o, rdpo, rd1o, fnv, intv, VOp.dst, getRo, solEo, solo, solo1, allsz, List.all_cons, List.all_nil, Bool.and_true, beq_self_eq_true, List.length_cons, List.length_nil, Nat.zero_add, srcv, Nat.le_refl, List.take_succ_cons, List.take_zero, and_self, if_true, Nat.reduceAdd, Nat.reduceLT, eq_self]; rfl) | rfl, rfl⟩ ?_ ?_
          · rintro e E H n (⟨rfl, h0, h3, ha⟩ | ⟨rfl, h2, ha⟩)
            · simp -dsimp only [↓SD, SP, ↓reduceIte, Nat.reduceEqDiff, ini, frz, rdAo, rd3o, rd2o, rdpo, rd1o, fnv, intv, VOp.dst, getRo, solEo, solo, solo1, allsz, List.all_cons, List.all_nil, Bool.and_true, beq_self_eq_true, List.length_cons, List.length_nil, Nat.zero_add, srcv, Nat.le_refl, List.take_succ_cons, List.take_zero, and_self, if_true, Nat.reduceAdd, Nat.reduceLT, eq_self, h3, wrap64 ((i : Int) + 1) (by omega)]
              refine hK (m - 1) _ _ _ (by omega) ⟨i + 1, by omega, by first | (simp -dsimp only [↓SD, SP, ↓reduceIte, Nat.reduceEqDiff, ini, frz, rdAo, rd3o, rd2o, rdpo, rd1o, fnv, intv, VOp.dst, getRo, solEo, solo, solo1, allsz, List.all_cons, List.all_nil, Bool.and_true, beq_self_eq_true, List.length_cons, List.length_nil, Nat.zero_add, srcv, Nat.le_refl, List.take_succ_cons, List.take_zero, and_self, if_true, Nat.reduceAdd, Nat.reduceLT, eq_self, h0]; done) | (simp -dsimp only [↓SD, SP, ↓reduceIte, Nat.reduceEqDiff, ini, frz, rdAo, rd3o, rd2o, rdpo, rd1o, fnv, intv, VOp.dst, getRo, solEo, solo, solo1, allsz, List.all_cons, List.all_nil, Bool.and_true, beq_self_eq_true, List.length_cons, List.length_nil, Nat.zero_add, srcv, Nat.le_refl, List.take_succ_cons, List.take_zero, and_self, if_true, Nat.reduceAdd, Nat.reduceLT, eq_self, h0]; rfl) | rfl, by first | (simp -dsimp only [↓SD, SP, ↓reduceIte, Nat.reduceEqDiff, ini, frz, rdAo, rd3o, rd2o, rdpo, rd1o, fnv, intv, VOp.dst, getRo, solEo, solo, solo1, allsz, List.all_cons, List.all_nil, Bool.and_true, beq_self_eq_true, List.length_cons, List.length_nil, Nat.zero_add, srcv, Nat.le_refl, List.take_succ_cons, List.take_zero, and_self, if_true, Nat.reduceAdd, Nat.reduceLT, eq_self, Int.natCast_add, Int.natCast_one]; done) | (simp -dsimp only [↓SD, SP, ↓reduceIte, Nat.reduceEqDiff, ini, frz, rdAo, rd3o, rd2o, rdpo, rd1o, fnv, intv, VOp.dst, getRo, solEo, solo, solo1, allsz, List.all_cons, List.all_nil, Bool.and_true, beq_self_eq_true, List.length_cons, List.length_nil, Nat.zero_add, srcv, Nat.le_refl, List.take_succ_cons, List.take_zero, and_self, if_true, Nat.reduceAdd, Nat.reduceLT, eq_self, Int.natCast_add, Int.natCast_one]; rfl) | rfl, fun j hj g hg => ?_⟩
              rcases Nat.lt_or_ge j i with h' | h'
              · exact hok j h' g hg
              · obtain rfl : j = i := by omega
                rw [hget] at hg
                obtain rfl := Option.some.inj hg
                rw [hkk, e1, e2, hprev, e3, ha]
                rfl
            · simp -dsimp only [↓SD, SP, ↓reduceIte, Nat.reduceEqDiff, ini, frz, rdAo, rd3o, rd2o, rdpo, rd1o, fnv, intv, VOp.dst, getRo, solEo, solo, solo1, allsz, List.all_cons, List.all_nil, Bool.and_true, beq_self_eq_true, List.length_cons, List.length_nil, Nat.zero_add, srcv, Nat.le_refl, List.take_succ_cons, List.take_zero, and_self, if_true, Nat.reduceAdd, Nat.reduceLT, eq_self]
              exact no (by rw [hkk, e1, e2, hprev, e3, ha]; rfl) _ _ _ h2
          · rintro m2 E H n Q2 K2 ⟨k, hm2, h0, h3, h4, hp2⟩ hQ2 hK2
            by_cases hk : k < t.length
            · simp -dsimp only [↓SD, SP, ↓reduceIte, Nat.reduceEqDiff, ini, frz, rdAo, rd3o, rd2o, rdpo, rd1o, fnv, intv, VOp.dst, getRo, solEo, solo, solo1, allsz, List.all_cons, List.all_nil, Bool.and_true, beq_self_eq_true, List.length_cons, List.length_nil, Nat.zero_add, srcv, Nat.le_refl, List.take_succ_cons, List.take_zero, and_self, if_true, Nat.reduceAdd, Nat.reduceLT, eq_self, h0, h3, h4, l_lv, Int.ofNat_lt, hk, hx, x_lv el_file _ _ hk, fa_f0, ↓r_any]
              refine call_rule (hin _ _ ho.1 (ht.2 t[k] (List.getElem_mem hk)).1) ?_
              rintro lo3 hi3 r - - rfl
              have hany : ((t.take (k + 1)).any fun o => inB f.path o.path) = inB f.path t[k].path := by
                rw [List.take_succ_eq_append_getElem hk, List.any_append, hp2]
                simp
              cases hb : inB f.path t[k].path
              · simp -dsimp only [↓SD, SP, ↓reduceIte, Nat.reduceEqDiff, ini, frz, rdAo, rd3o, rd2o, rdpo, rd1o, fnv, intv, VOp.dst, getRo, solEo, solo, solo1, allsz, List.all_cons, List.all_nil, Bool.and_true, beq_self_eq_true, List.length_cons, List.length_nil, Nat.zero_add, srcv, Nat.le_refl, List.take_succ_cons, List.take_zero, and_self, if_true, Nat.reduceAdd, Nat.reduceLT, eq_self, ↓r_any, h4, wrap64 ((k : Int) + 1) (by omega)]
                refine hK2 (m2 - 1) _ _ _ (by omega) ⟨k + 1, by omega, by first | (simp -dsimp only [↓SD, SP, ↓reduceIte, Nat.reduceEqDiff, ini, frz, rdAo, rd3o, rd2o, rdpo, rd1o, fnv, intv, VOp.dst, getRo, solEo, solo, solo1, allsz, List.all_cons, List.all_nil, Bool.and_true, beq_self_eq_true, List.length_cons, List.length_nil, Nat.zero_add, srcv, Nat.le_refl, List.take_succ_cons, List.take_zero, and_self, if_true, Nat.reduceAdd, Nat.reduceLT, eq_self, h0]; done) | (simp -dsimp only [↓SD, SP, ↓reduceIte, Nat.reduceEqDiff, ini, frz, rdAo, rd3o, rd2o, rdpo, rd1o, fnv, intv, VOp.dst, getRo, solEo, solo, solo1, allsz, List.all_cons, List.all_nil, Bool.and_true, beq_self_eq_true, List.length_cons, List.length_nil, Nat.zero_add, srcv, Nat.le_refl, List.take_succ_cons, List.take_zero, and_self, if_true, Nat.reduceAdd, Nat.reduceLT, eq_self, h0]; rfl) | rfl, by first | (simp -dsimp only [↓SD, SP, ↓reduceIte, Nat.reduceEqDiff, ini, frz, rdAo, rd3o, rd2o, rdpo, rd1o, fnv, intv, VOp.dst, getRo, solEo, solo, solo1, allsz, List.all_cons, List.all_nil, Bool.and_true, beq_self_eq_true, List.length_cons, List.length_nil, Nat.zero_add, srcv, Nat.le_refl, List.take_succ_cons, List.take_zero, and_self, if_true, Nat.reduceAdd, Nat.reduceLT, eq_self, h3]; done) | (simp -dsimp only [↓SD, SP, ↓reduceIte, Nat.reduceEqDiff, ini, frz, rdAo, rd3o, rd2o, rdpo, rd1o, fnv, intv, VOp.dst, getRo, solEo, solo, solo1, allsz, List.all_cons, List.all_nil, Bool.and_true, beq_self_eq_true, List.length_cons, List.length_nil, Nat.zero_add, srcv, Nat.le_refl, List.take_succ_cons, List.take_zero, and_self, if_true, Nat.reduceAdd, Nat.reduceLT, eq_self, h3]; rfl) | rfl, by first | (simp -dsimp only [↓SD, SP, ↓reduceIte, Nat.reduceEqDiff, ini, frz, rdAo, rd3o, rd2o, rdpo, rd1o, fnv, intv, VOp.dst, getRo, solEo, solo, solo1, allsz, List.all_cons, List.all_nil, Bool.and_true, beq_self_eq_true, List.length_cons, List.length_nil, Nat.zero_add, srcv, Nat.le_refl, List.take_succ_cons, List.take_zero, and_self, if_true, Nat.reduceAdd, Nat.reduceLT, eq_self, Int.natCast_add, Int.natCast_one]; done) | (simp -dsimp only [↓SD, SP, ↓reduceIte, Nat.reduceEqDiff, ini, frz, rdAo, rd3o, rd2o, rdpo, rd1o, fnv, intv, VOp.dst, getRo, solEo, solo, solo1, allsz, List.all_cons, List.all_nil, Bool.and_true, beq_self_eq_true, List.length_cons, List.length_nil, Nat.zero_add, srcv, Nat.le_refl, List.take_succ_cons, List.take_zero, and_self, if_true, Nat.reduceAdd, Nat.reduceLT, eq_self, Int.natCast_add, Int.natCast_one]; rfl) | rfl, by rw [hany, hb]⟩
              · simp -dsimp only [↓SD, SP, ↓reduceIte, Nat.reduceEqDiff, ini, frz, rdAo, rd3o, rd2o, rdpo, rd1o, fnv, intv, VOp.dst, getRo, solEo, solo, solo1, allsz, List.all_cons, List.all_nil, Bool.and_true, beq_self_eq_true, List.length_cons, List.length_nil, Nat.zero_add, srcv, Nat.le_refl, List.take_succ_cons, List.take_zero, and_self, if_true, Nat.reduceAdd, Nat.reduceLT, eq_self, ↓r_any]
                exact hQ2 _ _ _ _ (.inr ⟨rfl, by first | (simp -dsimp only [↓SD, SP, ↓reduceIte, Nat.reduceEqDiff, ini, frz, rdAo, rd3o, rd2o, rdpo, rd1o, fnv, intv, VOp.dst, getRo, solEo, solo, solo1, allsz, List.all_cons, List.all_nil, Bool.and_true, beq_self_eq_true, List.length_cons, List.length_nil, Nat.zero_add, srcv, Nat.le_refl, List.take_succ_cons, List.take_zero, and_self, if_true, Nat.reduceAdd, Nat.reduceLT, eq_self]; done) | (simp -dsimp only [↓SD, SP, ↓reduceIte, Nat.reduceEqDiff, ini, frz, rdAo, rd3o, rd2o, rdpo, rd1o, fnv, intv, VOp.dst, getRo, solEo, solo, solo1, allsz, List.all_cons, List.all_nil, Bool.and_true, beq_self_eq_true, List.length_cons, List.length_nil, Nat.zero_add, srcv, Nat.le_refl, List.take_succ_cons, List.take_zero, and_self, if_true, Nat.reduceAdd, Nat.reduceLT, eq_self]; rfl) | rfl, List.any_eq_true.2 ⟨t[k], List.getElem_mem hk, hb⟩⟩)
            · simp -dsimp only [↓SD, SP, ↓reduceIte, Nat.reduceEqDiff, ini, frz, rdAo, rd3o, rd2o, rdpo, rd1o, fnv, intv, VOp.dst, getRo, solEo, solo, solo1, allsz, List.all_cons, List.all_nil, Bool.and_true, beq_self_eq_true, List.length_cons, List.length_nil, Nat.zero_add, srcv, Nat.le_refl, List.take_succ_cons, List.take_zero, and_self, if_true, Nat.reduceAdd, Nat.reduceLT, eq_self, h0, h3, h4, l_lv, Int.ofNat_lt, hk]
              rw [List.take_of_length_le (by omega)] at hp2
              exact hQ2 _ _ _ _ (.inl ⟨rfl, by first | (simp -dsimp only [↓SD, SP, ↓reduceIte, Nat.reduceEqDiff, ini, frz, rdAo, rd3o, rd2o, rdpo, rd1o, fnv, intv, VOp.dst, getRo, solEo, solo, solo1, allsz, List.all_cons, List.all_nil, Bool.and_true, beq_self_eq_true, List.length_cons, List.length_nil, Nat.zero_add, srcv, Nat.le_refl, List.take_succ_cons, List.take_zero, and_self, if_true, Nat.reduceAdd, Nat.reduceLT, eq_self, h0]; done) | (simp -dsimp only [↓SD, SP, ↓reduceIte, Nat.reduceEqDiff, ini, frz, rdAo, rd3o, rd2o, rdpo, rd1o, fnv, intv, VOp.dst, getRo, solEo, solo, solo1, allsz, List.all_cons, List.all_nil, Bool.and_true, beq_self_eq_true, List.length_cons, List.length_nil, Nat.zero_add, srcv, Nat.le_refl, List.take_succ_cons, List.take_zero, and_self, if_true, Nat.reduceAdd, Nat.reduceLT, eq_self, h0]; rfl) | rfl, by first | (simp -dsimp only [↓SD, SP, ↓reduceIte, Nat.reduceEqDiff, ini, frz, rdAo, rd3o, rd2o, rdpo, rd1o, fnv, intv, VOp.dst, getRo, solEo, solo, solo1, allsz, List.all_cons, List.all_nil, Bool.and_true, beq_self_eq_true, List.length_cons, List.length_nil, Nat.zero_add, srcv, Nat.le_refl, List.take_succ_cons, List.take_zero, and_self, if_true, Nat.reduceAdd, Nat.reduceLT, eq_self, h3]; done) | (simp -dsimp only [↓SD, SP, ↓reduceIte, Nat.reduceEqDiff, ini, frz, rdAo, rd3o, rd2o, rdpo, rd1o, fnv, intv, VOp.dst, getRo, solEo, solo, solo1, allsz, List.all_cons, List.all_nil, Bool.and_true, beq_self_eq_true, List.length_cons, List.length_nil, Nat.zero_add, srcv, Nat.le_refl, List.take_succ_cons, List.take_zero, and_self, if_true, Nat.reduceAdd, Nat.reduceLT, eq_self, h3]; rfl) | rfl, hp2⟩)
      · have hprev : prevLt t i f = true := by
          simp only [prevLt, show i = 0 by omega, decide_true, Bool.true_or]
        simp -dsimp only [↓SD, SP, ↓reduceIte, Nat.reduceEqDiff, ini, frz, rdAo, rd3o, rd2o, rdpo, rd1o, fnv, intv, VOp.dst, getRo, solEo, solo, solo1, allsz, List.all_cons, List.all_nil, Bool.and_true, beq_self_eq_true, List.length_cons, List.length_nil, Nat.zero_add, srcv, Nat.le_refl, List.take_succ_cons, List.take_zero, and_self, if_true, Nat.reduceAdd, Nat.reduceLT, eq_self, h0, h3, hi0, ↓r_any]
        refine loop_rule (fun m E H n => ∃ k : Nat, m + k = t.length ∧ E 0 = filesV t ∧ E 3 = .int .i64 i ∧ E 4 = .int .i64 k ∧ ((t.take k).any fun o => inB f.path o.path) = false)
          (fun e E H n => (e = .exit 2 ∧ E 0 = filesV t ∧ E 3 = .int .i64 i ∧ (t.any fun o => inB f.path o.path) = false) ∨ (e = .ret ∧ E 2 = .bool false ∧ (t.any fun o => inB f.path o.path) = true)) t.length ⟨0, rfl, by first | (simp -dsimp only [↓SD, SP, ↓reduceIte, Nat.reduceEqDiff, ini, frz, rdAo, rd3o, rd2o, rdpo, rd1o, fnv, intv, VOp.dst, getRo, solEo, solo, solo1, allsz, List.all_cons, List.all_nil, Bool.and_true, beq_self_eq_true, List.length_cons, List.length_nil, Nat.zero_add, srcv, Nat.le_refl, List.take_succ_cons, List.take_zero, and_self, if_true, Nat.reduceAdd, Nat.reduceLT, eq_self, h0]; done) | (simp -dsimp only [↓SD, SP, ↓reduceIte, Nat.reduceEqDiff, ini, frz, rdAo, rd3o, rd2o, rdpo, rd1o, fnv, intv, VOp.dst, getRo, solEo, solo, solo1, allsz, List.all_cons, List.all_nil, Bool.and_true, beq_self_eq_true, List.length_cons, List.length_nil, Nat.zero_add, srcv, Nat.le_refl, List.take_succ_cons, List.take_zero, and_self, if_true, Nat.reduceAdd, Nat.reduceLT, eq_self, h0]; rfl) | rfl, by first | (simp -dsimp only [↓SD, SP, ↓reduceIte, Nat.reduceEqDiff, ini, frz, rdAo, rd3o, rd2o, rdpo, rd1o, fnv, intv, VOp.dst, getRo, solEo, solo, solo1, allsz, List.all_cons, List.all_nil, Bool.and_true, beq_self_eq_true, List.length_cons, List.length_nil, Nat.zero_add, srcv, Nat.le_refl, List.take_succ_cons, List.take_zero, and_self, if_true, Nat.reduceAdd, Nat.reduceLT, eq_self, h3]; done) | (simp -dsimp only [↓SD, SP, ↓reduceIte, Nat.reduceEqDiff, ini, frz, rdAo, rd3o, rd2o, rdpo, rd1o, fnv, intv, VOp.dst, getRo, solEo, solo, solo1, allsz, List.all_cons, List.all_nil, Bool.and_true, beq_self_eq_true, List.length_cons, List.length_nil, Nat.zero_add, srcv, Nat.le_refl, List.take_succ_cons, List.take_zero, and_self, if_true, Nat.reduceAdd, Nat.reduceLT, eq_self, h3]; rfl) | rfl, by first | (simp -dsimp only [↓SD, SP, ↓reduceIte, Nat.reduceEqDiff, ini, frz, rdAo, rd3o, rd2o, rdpo, rd1o, fnv, intv, VOp.dst, getRo, solEo, solo, solo1, allsz, List.all_cons, List.all_nil, Bool.and_true, beq_self_eq_true, List.length_cons, List.length_nil, Nat.zero_add, srcv, Nat.le_refl, List.take_succ_cons, List.take_zero, and_self, if_true, Nat.reduceAdd, Nat.reduceLT, eq_self]; done) | (simp -dsimp only [↓SD, SP, ↓reduceIte, Nat.reduceEqDiff, ini, frz, rdAo, rd3o, rd2o, rdpo, rd1o, fnv, intv, VOp.dst, getRo, solEo, solo, solo1, allsz, List.all_cons, List.all_nil, Bool.and_true, beq_self_eq_true, List.length_cons, List.length_nil, Nat.zero_add, srcv, Nat.le_refl, List.take_succ_cons, List.take_zero, and_self, if_true, Nat.reduceAdd, Nat.reduceLT, eq_self]; rfl) | rfl, rfl⟩ ?_ ?_
        · rintro e E H n (⟨rfl, h0, h3, ha⟩ | ⟨rfl, h2, ha⟩)
          · simp -dsimp only [↓SD, SP, ↓reduceIte, Nat.reduceEqDiff, ini, frz, rdAo, rd3o, rd2o, rdpo, rd1o, fnv, intv, VOp.dst, getRo, solEo, solo, solo1, allsz, List.all_cons, List.all_nil, Bool.and_true, beq_self_eq_true, List.length_cons, List.length_nil, Nat.zero_add, srcv, Nat.le_refl, List.take_succ_cons, List.take_zero, and_self, if_true, Nat.reduceAdd, Nat.reduceLT, eq_self, h3, wrap64 ((i : Int) + 1) (by omega)]
            refine hK (m - 1) _ _ _ (by omega) ⟨i + 1, by omega, by first | (simp -dsimp only [↓SD, SP, ↓reduceIte, Nat.reduceEqDiff, ini, frz, rdAo, rd3o, rd2o, rdpo, rd1o, fnv, intv, VOp.dst, getRo, solEo, solo, solo1, allsz, List.all_cons, List.all_nil, Bool.and_true, beq_self_eq_true, List.length_cons, List.length_nil, Nat.zero_add, srcv, Nat.le_refl, List.take_succ_cons, List.take_zero, and_self, if_true, Nat.reduceAdd, Nat.reduceLT, eq_self, h0]; done) | (simp -dsimp only [↓SD, SP, ↓reduceIte, Nat.reduceEqDiff, ini, frz, rdAo, rd3o, rd2o, rdpo, rd1o, fnv, intv, VOp.dst, getRo, solEo, solo, solo1, allsz, List.all_cons, List.all_nil, Bool.and_true, beq_self_eq_true, List.length_cons, List.length_nil, Nat.zero_add, srcv, Nat.le_refl, List.take_succ_cons, List.take_zero, and_self, if_true, Nat.reduceAdd, Nat.reduceLT, eq_self, h0]; rfl) | rfl, by first | (simp -dsimp only [↓SD, SP, ↓reduceIte, Nat.reduceEqDiff, ini, frz, rdAo, rd3o, rd2o, rdpo, rd1o, fnv, intv, VOp.dst, getRo, solEo, solo, solo1, allsz, List.all_cons, List.all_nil, Bool.and_true, beq_self_eq_true, List.length_cons, List.length_nil, Nat.zero_add, srcv, Nat.le_refl, List.take_succ_cons, List.take_zero, and_self, if_true, Nat.reduceAdd, Nat.reduceLT, eq_self, Int.natCast_add, Int.natCast_one]; done) | (simp -dsimp only [↓SD, SP, ↓reduceIte, Nat.reduceEqDiff, ini, frz, rdAo, rd3o, rd2o, rdpo, rd1o, fnv, intv, VOp.dst, getRo, solEo, solo, solo1, allsz, List.all_cons, List.all_nil, Bool.and_true, beq_self_eq_true, List.length_cons, List.length_nil, Nat.zero_add, srcv, Nat.le_refl, List.take_succ_cons, List.take_zero, and_self, if_true, Nat.reduceAdd, Nat.reduceLT, eq_self, Int.natCast_add, Int.natCast_one]; rfl) | rfl, fun j hj g hg => ?_⟩
            rcases Nat.lt_or_ge j i with h' | h'
            · exact hok j h' g hg
            · obtain rfl : j = i := by omega
              rw [hget] at hg
              obtain rfl := Option.some.inj hg
              rw [hkk, e1, e2, hprev, ha]
              rfl
          · simp -dsimp only [↓SD, SP, ↓reduceIte, Nat.reduceEqDiff, ini, frz, rdAo, rd3o, rd2o, rdpo, rd1o, fnv, intv, VOp.dst, getRo, solEo, solo, solo1, allsz, List.all_cons, List.all_nil, Bool.and_true, beq_self_eq_true, List.length_cons, List.length_nil, Nat.zero_add, srcv, Nat.le_refl, List.take_succ_cons, List.take_zero, and_self, if_true, Nat.reduceAdd, Nat.reduceLT, eq_self]
            exact no (by rw [hkk, e1, e2, hprev, ha]; rfl) _ _ _ h2
        · rintro m2 E H n Q2 K2 ⟨k, hm2, h0, h3, h4, hp2⟩ hQ2 hK2
          by_cases hk : k < t.length
          · simp -dsimp only [↓SD, SP, ↓reduceIte, Nat.reduceEqDiff, ini, frz, rdAo, rd3o, rd2o, rdpo, rd1o, fnv, intv, VOp.dst, getRo, solEo, solo, solo1, allsz, List.all_cons, List.all_nil, Bool.and_true, beq_self_eq_true, List.length_cons, List.length_nil, Nat.zero_add, srcv, Nat.le_refl, List.take_succ_cons, List.take_zero, and_self, if_true, Nat.reduceAdd, Nat.reduceLT, eq_self, h0, h3, h4, l_lv, Int.ofNat_lt, hk, hx, x_lv el_file _ _ hk, fa_f0, ↓r_any]
            refine call_rule (hin _ _ ho.1 (ht.2 t[k] (List.getElem_mem hk)).1) ?_
            rintro lo3 hi3 r - - rfl
            have hany : ((t.take (k + 1)).any fun o => inB f.path o.path) = inB f.path t[k].path := by
              rw [List.take_succ_eq_append_getElem hk, List.any_append, hp2]
              simp
            cases hb : inB f.path t[k].path
            · simp -dsimp only [↓SD, SP, ↓reduceIte, Nat.reduceEqDiff, ini, frz, rdAo, rd3o, rd2o, rdpo, rd1o, fnv, intv, VOp.dst, getRo, solEo, solo, solo1, allsz, List.all_cons, List.all_nil, Bool.and_true, beq_self_eq_true, List.length_cons, List.length_nil, Nat.zero_add, srcv, Nat.le_refl, List.take_succ_cons, List.take_zero, and_self, if_true, Nat.reduceAdd, Nat.reduceLT, eq_self, ↓r_any, h4, wrap64 ((k : Int) + 1) (by omega)]
              refine hK2 (m2 - 1) _ _ _ (by omega) ⟨k + 1, by omega, by first | (simp -dsimp only [↓SD, SP, ↓reduceIte, Nat.reduceEqDiff, ini, frz, rdAo, rd3o, rd2o, rdpo, rd1o, fnv, intv, VOp.dst, getRo, solEo, solo, solo1, allsz, List.all_cons, List.all_nil, Bool.and_true, beq_self_eq_true, List.length_cons, List.length_nil, Nat.zero_add, srcv, Nat.le_refl, List.take_succ_cons, List.take_zero, and_self, if_true, Nat.reduceAdd, Nat.reduceLT, eq_self, h0]; done) | (simp -dsimp only [↓SD, SP, ↓reduceIte, Nat.reduceEqDiff, ini, frz, rdAo, rd3o, rd2o, rdpo, rd1o, fnv, intv, VOp.dst, getRo, solEo, solo, solo1, allsz, List.all_cons, List.all_nil, Bool.and_true, beq_self_eq_true, List.length_cons, List.length_nil, Nat.zero_add, srcv, Nat.le_refl, List.take_succ_cons, List.take_zero, and_self, if_true, Nat.reduceAdd, Nat.reduceLT, eq_self, h0]; rfl) | rfl, by first | (simp -dsimp only [↓SD, SP, ↓reduceIte, Nat.reduceEqDiff, ini, frz, rdAo, rd3o, rd2o, rdpo, rd1o, fnv, intv, VOp.dst, getRo, solEo, solo, solo1, allsz, List.all_cons, List.all_nil, Bool.and_true, beq_self_eq_true, List.length_cons, List.length_nil, Nat.zero_add, srcv, Nat.le_refl, List.take_succ_cons, List.take_zero, and_self, if_true, Nat.reduceAdd, Nat.reduceLT, eq_self, h3]; done) | (simp -dsimp only [↓SD, SP, ↓reduceIte, Nat.reduceEqDiff, ini, frz, rdAo, rd3o, rd2o, rdpo, rd1o, fnv, intv, VOp.dst, getRo, solEo, solo, solo1, allsz, List.all_cons, List.all_nil, Bool.and_true, beq_self_eq_true, List.length_cons, List.length_nil, Nat.zero_add, srcv, Nat.le_refl, List.take_succ_cons, List.take_zero, and_self, if_true, Nat.reduceAdd, Nat.reduceLT, eq_self, h3]; rfl) | rfl, by first | (simp -dsimp only [↓SD, SP, ↓reduceIte, Nat.reduceEqDiff, ini, frz, rdAo, rd3o, rd2o, rdpo, rd1o, fnv, intv, VOp.dst, getRo, solEo, solo, solo1, allsz, List.all_cons, List.all_nil, Bool.and_true, beq_self_eq_true, List.length_cons, List.length_nil, Nat.zero_add, srcv, Nat.le_refl, List.take_succ_cons, List.take_zero, and_self, if_true, Nat.reduceAdd, Nat.reduceLT, eq_self, Int.natCast_add, Int.natCast_one]; done) | (simp -dsimp only [↓SD, SP, ↓reduceIte, Nat.reduceEqDiff, ini, frz, rdAo, rd3o, rd2o, rdpo, rd1o, fnv, intv, VOp.dst, getRo, solEo, solo, solo1, allsz, List.all_cons, List.all_nil, Bool.and_true, beq_self_eq_true, List.length_cons, List.length_nil, Nat.zero_add, srcv, Nat.le_refl, List.take_succ_cons, List.take_zero, and_self, if_true, Nat.reduceAdd, Nat.reduceLT, eq_self, Int.natCast_add, Int.natCast_one]; rfl) | rfl, by rw [hany, hb]⟩
            · simp -dsimp only [↓SD, SP, ↓reduceIte, Nat.reduceEqDiff, ini, frz, rdAo, rd3o, rd2o, rdpo, rd1o, fnv, intv, VOp.dst, getRo, solEo, solo, solo1, allsz, List.all_cons, List.all_nil, Bool.and_true, beq_self_eq_true, List.length_cons, List.length_nil, Nat.zero_add, srcv, Nat.le_refl, List.take_succ_cons, List.take_zero, and_self, if_true, Nat.reduceAdd, Nat.reduceLT, eq_self, ↓r_any]
              exact hQ2 _ _ _ _ (.inr ⟨rfl, by first | (simp -dsimp only [↓SD, SP, ↓reduceIte, Nat.reduceEqDiff, ini, frz, rdAo, rd3o, rd2o, rdpo, rd1o, fnv, intv, VOp.dst, getRo, solEo, solo, solo1, allsz, List.all_cons, List.all_nil, Bool.and_true, beq_self_eq_true, List.length_cons, List.length_nil, Nat.zero_add, srcv, Nat.le_refl, List.take_succ_cons, List.take_zero, and_self, if_true, Nat.reduceAdd, Nat.reduceLT, eq_self]; done) | (simp -dsimp only [↓SD, SP, ↓reduceIte, Nat.reduceEqDiff, ini, frz, rdAo, rd3o, rd2o, rdpo, rd1o, fnv, intv, VOp.dst, getRo, solEo, solo, solo1, allsz, List.all_cons, List.all_nil, Bool.and_true, beq_self_eq_true, List.length_cons, List.length_nil, Nat.zero_add, srcv, Nat.le_refl, List.take_succ_cons, List.take_zero, and_self, if_true, Nat.reduceAdd, Nat.reduceLT, eq_self]; rfl) | rfl, List.any_eq_true.2 ⟨t[k], List.getElem_mem hk, hb⟩⟩)
          · simp -dsimp only [↓SD, SP, ↓reduceIte, Nat.reduceEqDiff, ini, frz, rdAo, rd3o, rd2o, rdpo, rd1o, fnv, intv, VOp.dst, getRo, solEo, solo, solo1, allsz, List.all_cons, List.all_nil, Bool.and_true, beq_self_eq_true, List.length_cons, List.length_nil, Nat.zero_add, srcv, Nat.le_refl, List.take_succ_cons, List.take_zero, and_self, if_true, Nat.reduceAdd, Nat.reduceLT, eq_self, h0, h3, h4, l_lv, Int.ofNat_lt, hk]
            rw [List.take_of_length_le (by omega)] at hp2
            exact hQ2 _ _ _ _ (.inl ⟨rfl, by first | (simp -dsimp only [↓SD, SP, ↓reduceIte, Nat.reduceEqDiff, ini, frz, rdAo, rd3o, rd2o, rdpo, rd1o, fnv, intv, VOp.dst, getRo, solEo, solo, solo1, allsz, List.all_cons, List.all_nil, Bool.and_true, beq_self_eq_true, List.length_cons, List.length_nil, Nat.zero_add, srcv, Nat.le_refl, List.take_succ_cons, List.take_zero, and_self, if_true, Nat.reduceAdd, Nat.reduceLT, eq_self, h0]; done) | (simp -dsimp only [↓SD, SP, ↓reduceIte, Nat.reduceEqDiff, ini, frz, rdAo, rd3o, rd2o, rdpo, rd1o, fnv, intv, VOp.dst, getRo, solEo, solo, solo1, allsz, List.all_cons, List.all_nil, Bool.and_true, beq_self_eq_true, List.length_cons, List.length_nil, Nat.zero_add, srcv, Nat.le_refl, List.take_succ_cons, List.take_zero, and_self, if_true, Nat.reduceAdd, Nat.reduceLT, eq_self, h0]; rfl) | rfl, by first | (simp -dsimp only [↓SD, SP, ↓reduceIte, Nat.reduceEqDiff, ini, frz, rdAo, rd3o, rd2o, rdpo, rd1o, fnv, intv, VOp.dst, getRo, solEo, solo, solo1, allsz, List.all_cons, List.all_nil, Bool.and_true, beq_self_eq_true, List.length_cons, List.length_nil, Nat.zero_add, srcv, Nat.le_refl, List.take_succ_cons, List.take_zero, and_self, if_true, Nat.reduceAdd, Nat.reduceLT, eq_self, h3]; done) | (simp -dsimp only [↓SD, SP, ↓reduceIte, Nat.reduceEqDiff, ini, frz, rdAo, rd3o, rd2o, rdpo, rd1o, fnv, intv, VOp.dst, getRo, solEo, solo, solo1, allsz, List.all_cons, List.all_nil, Bool.and_true, beq_self_eq_true, List.length_cons, List.length_nil, Nat.zero_add, srcv, Nat.le_refl, List.take_succ_cons, List.take_zero, and_self, if_true, Nat.reduceAdd, Nat.reduceLT, eq_self, h3]; rfl) | rfl, hp2⟩)
    · simp -dsimp only [↓SD, SP, ↓reduceIte, Nat.reduceEqDiff, ini, frz, rdAo, rd3o, rd2o, rdpo, rd1o, fnv, intv, VOp.dst, getRo, solEo, solo, solo1, allsz, List.all_cons, List.all_nil, Bool.and_true, beq_self_eq_true, List.length_cons, List.length_nil, Nat.zero_add, srcv, Nat.le_refl, List.take_succ_cons, List.take_zero, and_self, if_true, Nat.reduceAdd, Nat.reduceLT, eq_self, h0, h3, l_lv, Int.ofNat_lt, hi]
      exact hQ _ _ _ _ (.inl ⟨rfl, h0, by unfold treeOkS; rw [allI_yes (fun j hj f hf => hok j (by omega) f hf), Bool.true_and]⟩)
end Go.AVM
