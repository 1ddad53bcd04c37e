/- The law of TreeOk. -/
import Derived.Test.YtnanbjnadkoekaaDoorTT2
set_option linter.unusedSimpArgs false
set_option linter.unusedVariables false
namespace Go.AVM
theorem law_TreeOk (x0 : List FileL) (hw0 : wfFs x0) : OK Go.Proofs.Tryd.prog 6 [filesV x0] (fun _ _ r => r = .bool true) := by
  refine fn_ok k6 rfl ?_
  intro lo
  have rp0 : ∀ H, rd3o false H (filesV x0) = some (filesV x0, []) := fun H => rd_lv H x0
  simp -dsimp only [↓SD, SP, ↓reduceIte, Nat.reduceEqDiff, ini, frz, rdAo, rd3o, rd2o, rdpo, rd1o, fnv, intv, VOp.dst, getRo, solEo, solo, solo1, allsz, List.all_cons, List.all_nil, Bool.and_true, beq_self_eq_true, List.length_cons, List.length_nil, Nat.zero_add, srcv, Nat.le_refl, List.take_succ_cons, List.take_zero, and_self, if_true, Nat.reduceAdd, Nat.reduceLT, eq_self, c6, ↓rp0, ↓r_any]
  refine call_rule (files_sz x0 1000000 (Nat.le_refl _) hw0) ?_
  rintro l0 h0 r - - ⟨i0, rfl, hi0⟩
  by_cases hneg0 : i0 < 0
  · simp -dsimp only [↓SD, SP, ↓reduceIte, Nat.reduceEqDiff, ini, frz, rdAo, rd3o, rd2o, rdpo, rd1o, fnv, intv, VOp.dst, getRo, solEo, solo, solo1, allsz, List.all_cons, List.all_nil, Bool.and_true, beq_self_eq_true, List.length_cons, List.length_nil, Nat.zero_add, srcv, Nat.le_refl, List.take_succ_cons, List.take_zero, and_self, if_true, Nat.reduceAdd, Nat.reduceLT, eq_self, hneg0, ↓r_any]
  obtain ⟨ok0, k0, rfl, hk0⟩ := hi0 (by omega)
  simp -dsimp only [↓SD, SP, ↓reduceIte, Nat.reduceEqDiff, ini, frz, rdAo, rd3o, rd2o, rdpo, rd1o, fnv, intv, VOp.dst, getRo, solEo, solo, solo1, allsz, List.all_cons, List.all_nil, Bool.and_true, beq_self_eq_true, List.length_cons, List.length_nil, Nat.zero_add, srcv, Nat.le_refl, List.take_succ_cons, List.take_zero, and_self, if_true, Nat.reduceAdd, Nat.reduceLT, eq_self, hneg0, ↓rp0, ↓r_any]
  refine call_rule (files_to x0 false ok0) ?_
  rintro l h a0 - - ⟨wa0, fa0, -⟩
  obtain ⟨q1, eq1, uq1⟩ := rd_wk (fl := false) wa0 (files_pl x0) (fun _ => none)
  simp -dsimp only [↓SD, SP, ↓reduceIte, Nat.reduceEqDiff, ini, frz, rdAo, rd3o, rd2o, rdpo, rd1o, fnv, intv, VOp.dst, getRo, solEo, solo, solo1, allsz, List.all_cons, List.all_nil, Bool.and_true, beq_self_eq_true, List.length_cons, List.length_nil, Nat.zero_add, srcv, Nat.le_refl, List.take_succ_cons, List.take_zero, and_self, if_true, Nat.reduceAdd, Nat.reduceLT, eq_self, ↓r_any, ↓eq1, ↓rp0]
  refine call_rule (OK.wk (s_specTreeOk x0 ok0) (.cons uq1 (.nil))) ?_
  rintro l h r - - rfl
  simp -dsimp only [↓SD, SP, ↓reduceIte, Nat.reduceEqDiff, ini, frz, rdAo, rd3o, rd2o, rdpo, rd1o, fnv, intv, VOp.dst, getRo, solEo, solo, solo1, allsz, List.all_cons, List.all_nil, Bool.and_true, beq_self_eq_true, List.length_cons, List.length_nil, Nat.zero_add, srcv, Nat.le_refl, List.take_succ_cons, List.take_zero, and_self, if_true, Nat.reduceAdd, Nat.reduceLT, eq_self, ↓r_any, ↓rp0]
  refine call_rule (files_to x0 false ok0) ?_
  rintro l h b0 - - ⟨wb0, fb0, -⟩
  obtain ⟨q2, eq2, uq2⟩ := rd_wk (fl := false) wb0 (files_pl x0) (fun _ => none)
  simp -dsimp only [↓SD, SP, ↓reduceIte, Nat.reduceEqDiff, ini, frz, rdAo, rd3o, rd2o, rdpo, rd1o, fnv, intv, VOp.dst, getRo, solEo, solo, solo1, allsz, List.all_cons, List.all_nil, Bool.and_true, beq_self_eq_true, List.length_cons, List.length_nil, Nat.zero_add, srcv, Nat.le_refl, List.take_succ_cons, List.take_zero, and_self, if_true, Nat.reduceAdd, Nat.reduceLT, eq_self, ↓r_any, ↓eq2, ↓rp0]
  refine call_rule (OK.wk (s_implTreeOk x0 ok0) (.cons uq2 (.nil))) ?_
  rintro l h r - - rfl
  simp -dsimp only [↓SD, SP, ↓reduceIte, Nat.reduceEqDiff, ini, frz, rdAo, rd3o, rd2o, rdpo, rd1o, fnv, intv, VOp.dst, getRo, solEo, solo, solo1, allsz, List.all_cons, List.all_nil, Bool.and_true, beq_self_eq_true, List.length_cons, List.length_nil, Nat.zero_add, srcv, Nat.le_refl, List.take_succ_cons, List.take_zero, and_self, if_true, Nat.reduceAdd, Nat.reduceLT, eq_self, ↓r_any, ↓rp0]
  refine call_rule (files_to x0 false ok0) ?_
  rintro l h c0 - - ⟨wc0, fc0, -⟩
  obtain ⟨q3, eq3, uq3⟩ := rd_wk (fl := true) (fb0 rfl) (files_plF x0) (fun _ => none)
  obtain ⟨q4, eq4, uq4⟩ := rd_wk (fl := true) (fc0 rfl) (files_plF x0) (fun _ => none)
  simp -dsimp only [↓SD, SP, ↓reduceIte, Nat.reduceEqDiff, ini, frz, rdAo, rd3o, rd2o, rdpo, rd1o, fnv, intv, VOp.dst, getRo, solEo, solo, solo1, allsz, List.all_cons, List.all_nil, Bool.and_true, beq_self_eq_true, List.length_cons, List.length_nil, Nat.zero_add, srcv, Nat.le_refl, List.take_succ_cons, List.take_zero, and_self, if_true, Nat.reduceAdd, Nat.reduceLT, eq_self, ↓r_any, ↓eq3, ↓eq4, ↓rp0]
  refine call_rule (OK.wk (files_in x0 ok0) (.cons uq3 ( .cons uq4 (.nil)))) ?_
  rintro l h r - - rfl
  simp -dsimp only [↓SD, SP, ↓reduceIte, Nat.reduceEqDiff, ini, frz, rdAo, rd3o, rd2o, rdpo, rd1o, fnv, intv, VOp.dst, getRo, solEo, solo, solo1, allsz, List.all_cons, List.all_nil, Bool.and_true, beq_self_eq_true, List.length_cons, List.length_nil, Nat.zero_add, srcv, Nat.le_refl, List.take_succ_cons, List.take_zero, and_self, if_true, Nat.reduceAdd, Nat.reduceLT, eq_self, ↓r_any, ↓rp0]
  refine call_rule (files_to x0 true ok0) ?_
  rintro l h d0 - - ⟨wd0, fd0, -⟩
  obtain ⟨q5, eq5, uq5⟩ := rd_wk (fl := false) wd0 (files_pl x0) (fun _ => none)
  simp -dsimp only [↓SD, SP, ↓reduceIte, Nat.reduceEqDiff, ini, frz, rdAo, rd3o, rd2o, rdpo, rd1o, fnv, intv, VOp.dst, getRo, solEo, solo, solo1, allsz, List.all_cons, List.all_nil, Bool.and_true, beq_self_eq_true, List.length_cons, List.length_nil, Nat.zero_add, srcv, Nat.le_refl, List.take_succ_cons, List.take_zero, and_self, if_true, Nat.reduceAdd, Nat.reduceLT, eq_self, ↓r_any, ↓eq5, ↓rp0]
  refine call_rule (OK.wk (s_implTreeOk x0 ok0) (.cons uq5 (.nil))) ?_
  rintro l h r - - rfl
  simp -dsimp only [↓SD, SP, ↓reduceIte, Nat.reduceEqDiff, ini, frz, rdAo, rd3o, rd2o, rdpo, rd1o, fnv, intv, VOp.dst, getRo, solEo, solo, solo1, allsz, List.all_cons, List.all_nil, Bool.and_true, beq_self_eq_true, List.length_cons, List.length_nil, Nat.zero_add, srcv, Nat.le_refl, List.take_succ_cons, List.take_zero, and_self, if_true, Nat.reduceAdd, Nat.reduceLT, eq_self, ↓r_any, ↓rp0]
end Go.AVM
