/- The law of PatchFree. -/
import Derived.Test.YtjbniljmgnmdnaaFC0
import Derived.Test.YtjbniljmgnmdnaaFC5
set_option linter.unusedSimpArgs false
set_option linter.unusedVariables false
namespace Go.AVM
theorem law_PatchFree (x0 : List HunkL) (x1 : List HunkL) (hw0 : wfHs x0) (hw1 : wfHs x1) : OK Go.Proofs.Try.prog 10 [hunksV x0, hunksV x1] (fun _ _ r => r = .bool true) := by
  refine fn_ok k10 rfl ?_
  intro lo
  have rp0 : ∀ H, rd3o false H (hunksV x0) = some (hunksV x0, []) := fun H => rd_lv H x0
  have rp1 : ∀ H, rd3o false H (hunksV x1) = some (hunksV x1, []) := fun H => rd_lv H x1
  simp -dsimp only [↓SD, SP, ↓reduceIte, Nat.reduceEqDiff, ini, frz, rdAo, rd3o, rd2o, rdpo, rd1o, fnv, intv, VOp.dst, getRo, solEo, solo, solo1, allsz, List.all_cons, List.all_nil, Bool.and_true, beq_self_eq_true, List.length_cons, List.length_nil, Nat.zero_add, srcv, Nat.le_refl, List.take_succ_cons, List.take_zero, and_self, if_true, Nat.reduceAdd, Nat.reduceLT, eq_self, c10, ↓rp0, ↓rp1, ↓r_any]
  refine call_rule (hunks_sz x0 1000000 (Nat.le_refl _) hw0) ?_
  rintro l0 h0 r - - ⟨i0, rfl, hi0⟩
  by_cases hneg0 : i0 < 0
  · simp -dsimp only [↓SD, SP, ↓reduceIte, Nat.reduceEqDiff, ini, frz, rdAo, rd3o, rd2o, rdpo, rd1o, fnv, intv, VOp.dst, getRo, solEo, solo, solo1, allsz, List.all_cons, List.all_nil, Bool.and_true, beq_self_eq_true, List.length_cons, List.length_nil, Nat.zero_add, srcv, Nat.le_refl, List.take_succ_cons, List.take_zero, and_self, if_true, Nat.reduceAdd, Nat.reduceLT, eq_self, hneg0, ↓r_any]
  obtain ⟨ok0, k0, rfl, hk0⟩ := hi0 (by omega)
  simp -dsimp only [↓SD, SP, ↓reduceIte, Nat.reduceEqDiff, ini, frz, rdAo, rd3o, rd2o, rdpo, rd1o, fnv, intv, VOp.dst, getRo, solEo, solo, solo1, allsz, List.all_cons, List.all_nil, Bool.and_true, beq_self_eq_true, List.length_cons, List.length_nil, Nat.zero_add, srcv, Nat.le_refl, List.take_succ_cons, List.take_zero, and_self, if_true, Nat.reduceAdd, Nat.reduceLT, eq_self, hneg0, ↓rp0, ↓rp1, ↓r_any]
  refine call_rule (hunks_sz x1 k0 (by omega) hw1) ?_
  rintro l1 h1 r - - ⟨i1, rfl, hi1⟩
  by_cases hneg1 : i1 < 0
  · simp -dsimp only [↓SD, SP, ↓reduceIte, Nat.reduceEqDiff, ini, frz, rdAo, rd3o, rd2o, rdpo, rd1o, fnv, intv, VOp.dst, getRo, solEo, solo, solo1, allsz, List.all_cons, List.all_nil, Bool.and_true, beq_self_eq_true, List.length_cons, List.length_nil, Nat.zero_add, srcv, Nat.le_refl, List.take_succ_cons, List.take_zero, and_self, if_true, Nat.reduceAdd, Nat.reduceLT, eq_self, hneg1, ↓r_any]
  obtain ⟨ok1, k1, rfl, hk1⟩ := hi1 (by omega)
  simp -dsimp only [↓SD, SP, ↓reduceIte, Nat.reduceEqDiff, ini, frz, rdAo, rd3o, rd2o, rdpo, rd1o, fnv, intv, VOp.dst, getRo, solEo, solo, solo1, allsz, List.all_cons, List.all_nil, Bool.and_true, beq_self_eq_true, List.length_cons, List.length_nil, Nat.zero_add, srcv, Nat.le_refl, List.take_succ_cons, List.take_zero, and_self, if_true, Nat.reduceAdd, Nat.reduceLT, eq_self, hneg1, ↓rp0, ↓rp1, ↓r_any]
  refine call_rule (hunks_to x0 false ok0) ?_
  rintro l h a0 - - ⟨wa0, fa0, -⟩
  simp -dsimp only [↓SD, SP, ↓reduceIte, Nat.reduceEqDiff, ini, frz, rdAo, rd3o, rd2o, rdpo, rd1o, fnv, intv, VOp.dst, getRo, solEo, solo, solo1, allsz, List.all_cons, List.all_nil, Bool.and_true, beq_self_eq_true, List.length_cons, List.length_nil, Nat.zero_add, srcv, Nat.le_refl, List.take_succ_cons, List.take_zero, and_self, if_true, Nat.reduceAdd, Nat.reduceLT, eq_self, ↓r_any, ↓rp0, ↓rp1]
  refine call_rule (hunks_to x1 false ok1) ?_
  rintro l h a1 - - ⟨wa1, fa1, -⟩
  obtain ⟨q1, eq1, uq1⟩ := rd_wk (fl := false) wa0 (hunks_pl x0) (fun _ => none)
  obtain ⟨q2, eq2, uq2⟩ := rd_wk (fl := false) wa1 (hunks_pl x1) (fun _ => none)
  simp -dsimp only [↓SD, SP, ↓reduceIte, Nat.reduceEqDiff, ini, frz, rdAo, rd3o, rd2o, rdpo, rd1o, fnv, intv, VOp.dst, getRo, solEo, solo, solo1, allsz, List.all_cons, List.all_nil, Bool.and_true, beq_self_eq_true, List.length_cons, List.length_nil, Nat.zero_add, srcv, Nat.le_refl, List.take_succ_cons, List.take_zero, and_self, if_true, Nat.reduceAdd, Nat.reduceLT, eq_self, ↓r_any, ↓eq1, ↓eq2, ↓rp0, ↓rp1]
  refine call_rule (OK.wk (s_specPatchFree x0 x1 ok0 ok1) (.cons uq1 ( .cons uq2 (.nil)))) ?_
  rintro l h r - - rfl
  simp -dsimp only [↓SD, SP, ↓reduceIte, Nat.reduceEqDiff, ini, frz, rdAo, rd3o, rd2o, rdpo, rd1o, fnv, intv, VOp.dst, getRo, solEo, solo, solo1, allsz, List.all_cons, List.all_nil, Bool.and_true, beq_self_eq_true, List.length_cons, List.length_nil, Nat.zero_add, srcv, Nat.le_refl, List.take_succ_cons, List.take_zero, and_self, if_true, Nat.reduceAdd, Nat.reduceLT, eq_self, ↓r_any, ↓rp0, ↓rp1]
  refine call_rule (hunks_to x0 false ok0) ?_
  rintro l h b0 - - ⟨wb0, fb0, -⟩
  simp -dsimp only [↓SD, SP, ↓reduceIte, Nat.reduceEqDiff, ini, frz, rdAo, rd3o, rd2o, rdpo, rd1o, fnv, intv, VOp.dst, getRo, solEo, solo, solo1, allsz, List.all_cons, List.all_nil, Bool.and_true, beq_self_eq_true, List.length_cons, List.length_nil, Nat.zero_add, srcv, Nat.le_refl, List.take_succ_cons, List.take_zero, and_self, if_true, Nat.reduceAdd, Nat.reduceLT, eq_self, ↓r_any, ↓rp0, ↓rp1]
  refine call_rule (hunks_to x1 false ok1) ?_
  rintro l h b1 - - ⟨wb1, fb1, -⟩
  obtain ⟨q3, eq3, uq3⟩ := rd_wk (fl := false) wb0 (hunks_pl x0) (fun _ => none)
  obtain ⟨q4, eq4, uq4⟩ := rd_wk (fl := false) wb1 (hunks_pl x1) (fun _ => none)
  simp -dsimp only [↓SD, SP, ↓reduceIte, Nat.reduceEqDiff, ini, frz, rdAo, rd3o, rd2o, rdpo, rd1o, fnv, intv, VOp.dst, getRo, solEo, solo, solo1, allsz, List.all_cons, List.all_nil, Bool.and_true, beq_self_eq_true, List.length_cons, List.length_nil, Nat.zero_add, srcv, Nat.le_refl, List.take_succ_cons, List.take_zero, and_self, if_true, Nat.reduceAdd, Nat.reduceLT, eq_self, ↓r_any, ↓eq3, ↓eq4, ↓rp0, ↓rp1]
  refine call_rule (OK.wk (s_implPatchFree x0 x1 ok0 ok1) (.cons uq3 ( .cons uq4 (.nil)))) ?_
  rintro l h r - - rfl
  simp -dsimp only [↓SD, SP, ↓reduceIte, Nat.reduceEqDiff, ini, frz, rdAo, rd3o, rd2o, rdpo, rd1o, fnv, intv, VOp.dst, getRo, solEo, solo, solo1, allsz, List.all_cons, List.all_nil, Bool.and_true, beq_self_eq_true, List.length_cons, List.length_nil, Nat.zero_add, srcv, Nat.le_refl, List.take_succ_cons, List.take_zero, and_self, if_true, Nat.reduceAdd, Nat.reduceLT, eq_self, ↓r_any, ↓rp0, ↓rp1]
  refine call_rule (hunks_to x0 false ok0) ?_
  rintro l h c0 - - ⟨wc0, fc0, -⟩
  obtain ⟨q5, eq5, uq5⟩ := rd_wk (fl := true) (fb0 rfl) (hunks_plF x0) (fun _ => none)
  obtain ⟨q6, eq6, uq6⟩ := rd_wk (fl := true) (fc0 rfl) (hunks_plF x0) (fun _ => none)
  simp -dsimp only [↓SD, SP, ↓reduceIte, Nat.reduceEqDiff, ini, frz, rdAo, rd3o, rd2o, rdpo, rd1o, fnv, intv, VOp.dst, getRo, solEo, solo, solo1, allsz, List.all_cons, List.all_nil, Bool.and_true, beq_self_eq_true, List.length_cons, List.length_nil, Nat.zero_add, srcv, Nat.le_refl, List.take_succ_cons, List.take_zero, and_self, if_true, Nat.reduceAdd, Nat.reduceLT, eq_self, ↓r_any, ↓eq5, ↓eq6, ↓rp0, ↓rp1]
  refine call_rule (OK.wk (hunks_in x0 ok0) (.cons uq5 ( .cons uq6 (.nil)))) ?_
  rintro l h r - - rfl
  simp -dsimp only [↓SD, SP, ↓reduceIte, Nat.reduceEqDiff, ini, frz, rdAo, rd3o, rd2o, rdpo, rd1o, fnv, intv, VOp.dst, getRo, solEo, solo, solo1, allsz, List.all_cons, List.all_nil, Bool.and_true, beq_self_eq_true, List.length_cons, List.length_nil, Nat.zero_add, srcv, Nat.le_refl, List.take_succ_cons, List.take_zero, and_self, if_true, Nat.reduceAdd, Nat.reduceLT, eq_self, ↓r_any, ↓rp0, ↓rp1]
  refine call_rule (hunks_to x1 false ok1) ?_
  rintro l h c1 - - ⟨wc1, fc1, -⟩
  obtain ⟨q7, eq7, uq7⟩ := rd_wk (fl := true) (fb1 rfl) (hunks_plF x1) (fun _ => none)
  obtain ⟨q8, eq8, uq8⟩ := rd_wk (fl := true) (fc1 rfl) (hunks_plF x1) (fun _ => none)
  simp -dsimp only [↓SD, SP, ↓reduceIte, Nat.reduceEqDiff, ini, frz, rdAo, rd3o, rd2o, rdpo, rd1o, fnv, intv, VOp.dst, getRo, solEo, solo, solo1, allsz, List.all_cons, List.all_nil, Bool.and_true, beq_self_eq_true, List.length_cons, List.length_nil, Nat.zero_add, srcv, Nat.le_refl, List.take_succ_cons, List.take_zero, and_self, if_true, Nat.reduceAdd, Nat.reduceLT, eq_self, ↓r_any, ↓eq7, ↓eq8, ↓rp0, ↓rp1]
  refine call_rule (OK.wk (hunks_in x1 ok1) (.cons uq7 ( .cons uq8 (.nil)))) ?_
  rintro l h r - - rfl
  simp -dsimp only [↓SD, SP, ↓reduceIte, Nat.reduceEqDiff, ini, frz, rdAo, rd3o, rd2o, rdpo, rd1o, fnv, intv, VOp.dst, getRo, solEo, solo, solo1, allsz, List.all_cons, List.all_nil, Bool.and_true, beq_self_eq_true, List.length_cons, List.length_nil, Nat.zero_add, srcv, Nat.le_refl, List.take_succ_cons, List.take_zero, and_self, if_true, Nat.reduceAdd, Nat.reduceLT, eq_self, ↓r_any, ↓rp0, ↓rp1]
  refine call_rule (hunks_to x0 true ok0) ?_
  rintro l h d0 - - ⟨wd0, fd0, -⟩
  simp -dsimp only [↓SD, SP, ↓reduceIte, Nat.reduceEqDiff, ini, frz, rdAo, rd3o, rd2o, rdpo, rd1o, fnv, intv, VOp.dst, getRo, solEo, solo, solo1, allsz, List.all_cons, List.all_nil, Bool.and_true, beq_self_eq_true, List.length_cons, List.length_nil, Nat.zero_add, srcv, Nat.le_refl, List.take_succ_cons, List.take_zero, and_self, if_true, Nat.reduceAdd, Nat.reduceLT, eq_self, ↓r_any, ↓rp0, ↓rp1]
  refine call_rule (hunks_to x1 true ok1) ?_
  rintro l h d1 - - ⟨wd1, fd1, -⟩
  obtain ⟨q9, eq9, uq9⟩ := rd_wk (fl := false) wd0 (hunks_pl x0) (fun _ => none)
  obtain ⟨q10, eq10, uq10⟩ := rd_wk (fl := false) wd1 (hunks_pl x1) (fun _ => none)
  simp -dsimp only [↓SD, SP, ↓reduceIte, Nat.reduceEqDiff, ini, frz, rdAo, rd3o, rd2o, rdpo, rd1o, fnv, intv, VOp.dst, getRo, solEo, solo, solo1, allsz, List.all_cons, List.all_nil, Bool.and_true, beq_self_eq_true, List.length_cons, List.length_nil, Nat.zero_add, srcv, Nat.le_refl, List.take_succ_cons, List.take_zero, and_self, if_true, Nat.reduceAdd, Nat.reduceLT, eq_self, ↓r_any, ↓eq9, ↓eq10, ↓rp0, ↓rp1]
  refine call_rule (OK.wk (s_implPatchFree x0 x1 ok0 ok1) (.cons uq9 ( .cons uq10 (.nil)))) ?_
  rintro l h r - - rfl
  simp -dsimp only [↓SD, SP, ↓reduceIte, Nat.reduceEqDiff, ini, frz, rdAo, rd3o, rd2o, rdpo, rd1o, fnv, intv, VOp.dst, getRo, solEo, solo, solo1, allsz, List.all_cons, List.all_nil, Bool.and_true, beq_self_eq_true, List.length_cons, List.length_nil, Nat.zero_add, srcv, Nat.le_refl, List.take_succ_cons, List.take_zero, and_self, if_true, Nat.reduceAdd, Nat.reduceLT, eq_self, ↓r_any, ↓rp0, ↓rp1]
end Go.AVM
