/- The law of PatchBack. -/
import Derived.Test.YtjbniljmgnmdnaaFE5
set_option linter.unusedSimpArgs false
set_option linter.unusedVariables false
namespace Go.AVM
theorem law_PatchBack (x0 : List HunkL) (hw0 : wfHs x0) : OK Go.Proofs.Try.prog 12 [hunksV x0] (fun _ _ r => r = .bool true) := by
  refine fn_okO k12 rfl ?_
  intro lo
  have rp0 : ∀ H, rd3o false H (.old lo (hunksV x0)) = some (hunksV x0, []) := fun H => rd_old_lv _ H lo x0
  simp -dsimp only [↓SD, SP, ↓reduceIte, Nat.reduceEqDiff, ini, frz, rdAo, rd3o, rd2o, rdpo, rd1o, fnv, intv, VOp.dst, getRo, solEo, solo, solo1, allsz, List.all_cons, List.all_nil, Bool.and_true, beq_self_eq_true, List.length_cons, List.length_nil, Nat.zero_add, srcv, Nat.le_refl, List.take_succ_cons, List.take_zero, and_self, if_true, Nat.reduceAdd, Nat.reduceLT, eq_self, c12, ↓rp0, older_strs, older_lv, envL_cons, envL_nil, ↓r_any]
  refine call_rule (hunks_sz x0 1000000 (Nat.le_refl _) hw0) ?_
  rintro la0 ha0 r pa0 pb0 ⟨i0, rfl, hi0⟩
  by_cases hneg0 : i0 < 0
  · simp -dsimp only [↓SD, SP, ↓reduceIte, Nat.reduceEqDiff, ini, frz, rdAo, rd3o, rd2o, rdpo, rd1o, fnv, intv, VOp.dst, getRo, solEo, solo, solo1, allsz, List.all_cons, List.all_nil, Bool.and_true, beq_self_eq_true, List.length_cons, List.length_nil, Nat.zero_add, srcv, Nat.le_refl, List.take_succ_cons, List.take_zero, and_self, if_true, Nat.reduceAdd, Nat.reduceLT, eq_self, hneg0, ↓r_any]
  obtain ⟨ok0, k0, rfl, hk0⟩ := hi0 (by omega)
  simp -dsimp only [↓SD, SP, ↓reduceIte, Nat.reduceEqDiff, ini, frz, rdAo, rd3o, rd2o, rdpo, rd1o, fnv, intv, VOp.dst, getRo, solEo, solo, solo1, allsz, List.all_cons, List.all_nil, Bool.and_true, beq_self_eq_true, List.length_cons, List.length_nil, Nat.zero_add, srcv, Nat.le_refl, List.take_succ_cons, List.take_zero, and_self, if_true, Nat.reduceAdd, Nat.reduceLT, eq_self, hneg0, ↓rp0, older_strs, older_lv, envL_cons, envL_nil, ↓r_any]
  refine call_rule (hunks_toA x0 false ok0) ?_
  rintro la0 ha0 a0 pa0 qa0 ⟨wa0, fa0, ga0⟩
  obtain ⟨q1, eq1, uq1⟩ := rd_wk (fl := false) wa0.1 (hunks_pl x0) (fun _ => none)
  simp -dsimp only [↓SD, SP, ↓reduceIte, Nat.reduceEqDiff, ini, frz, rdAo, rd3o, rd2o, rdpo, rd1o, fnv, intv, VOp.dst, getRo, solEo, solo, solo1, allsz, List.all_cons, List.all_nil, Bool.and_true, beq_self_eq_true, List.length_cons, List.length_nil, Nat.zero_add, srcv, Nat.le_refl, List.take_succ_cons, List.take_zero, and_self, if_true, Nat.reduceAdd, Nat.reduceLT, eq_self, ↓r_any, ↓rp0, older_strs, older_lv, envL_cons, envL_nil, ↓eq1]
  refine call_rule (OK.wk (n_specPatchBack x0 ok0) (.cons uq1 (.nil))) ?_
  rintro lw hw w pw qw ww
  simp -dsimp only [↓SD, SP, ↓reduceIte, Nat.reduceEqDiff, ini, frz, rdAo, rd3o, rd2o, rdpo, rd1o, fnv, intv, VOp.dst, getRo, solEo, solo, solo1, allsz, List.all_cons, List.all_nil, Bool.and_true, beq_self_eq_true, List.length_cons, List.length_nil, Nat.zero_add, srcv, Nat.le_refl, List.take_succ_cons, List.take_zero, and_self, if_true, Nat.reduceAdd, Nat.reduceLT, eq_self, ↓r_any, ↓rp0, older_strs, older_lv, envL_cons, envL_nil]
  refine call_rule (hunks_toA x0 false ok0) ?_
  rintro lb0 hb0 b0 pb0 qb0 ⟨wb0, fb0, gb0⟩
  obtain ⟨q2, eq2, uq2⟩ := rd_wk (fl := false) wb0.1 (hunks_pl x0) (fun _ => none)
  simp -dsimp only [↓SD, SP, ↓reduceIte, Nat.reduceEqDiff, ini, frz, rdAo, rd3o, rd2o, rdpo, rd1o, fnv, intv, VOp.dst, getRo, solEo, solo, solo1, allsz, List.all_cons, List.all_nil, Bool.and_true, beq_self_eq_true, List.length_cons, List.length_nil, Nat.zero_add, srcv, Nat.le_refl, List.take_succ_cons, List.take_zero, and_self, if_true, Nat.reduceAdd, Nat.reduceLT, eq_self, ↓r_any, ↓rp0, older_strs, older_lv, envL_cons, envL_nil, ↓eq2]
  refine call_rule (OK.wk (n_implPatchBack x0 ok0) (.cons uq2 (.nil))) ?_
  rintro lg hg g pg qg ⟨wg, mg⟩
  obtain ⟨q3, eq3, uq3⟩ := rd_wk (fl := false) wg.1 (hunks_pl _) (fun _ => none)
  obtain ⟨q4, eq4, uq4⟩ := rd_wk (fl := false) ww.1 (hunks_pl _) (fun _ => none)
  simp -dsimp only [↓SD, SP, ↓reduceIte, Nat.reduceEqDiff, ini, frz, rdAo, rd3o, rd2o, rdpo, rd1o, fnv, intv, VOp.dst, getRo, solEo, solo, solo1, allsz, List.all_cons, List.all_nil, Bool.and_true, beq_self_eq_true, List.length_cons, List.length_nil, Nat.zero_add, srcv, Nat.le_refl, List.take_succ_cons, List.take_zero, and_self, if_true, Nat.reduceAdd, Nat.reduceLT, eq_self, ↓r_any, ↓rp0, older_strs, older_lv, envL_cons, envL_nil, ↓eq3, ↓eq4]
  refine call_rule (OK.wk (hunks_eq (backL x0) (backL_ok x0).1 (backL_ok x0).2) (.cons uq3 ( .cons uq4 (.nil)))) ?_
  rintro l h r py qy rfl
  simp -dsimp only [↓SD, SP, ↓reduceIte, Nat.reduceEqDiff, ini, frz, rdAo, rd3o, rd2o, rdpo, rd1o, fnv, intv, VOp.dst, getRo, solEo, solo, solo1, allsz, List.all_cons, List.all_nil, Bool.and_true, beq_self_eq_true, List.length_cons, List.length_nil, Nat.zero_add, srcv, Nat.le_refl, List.take_succ_cons, List.take_zero, and_self, if_true, Nat.reduceAdd, Nat.reduceLT, eq_self, ↓r_any, ↓rp0, older_strs, older_lv, envL_cons, envL_nil]
  refine call_rule (hunks_toA x0 false ok0) ?_
  rintro lc0 hc0 c0 pc0 qc0 ⟨wc0, fc0, gc0⟩
  obtain ⟨q5, eq5, uq5⟩ := rd_wk (fl := true) (fb0 rfl) (hunks_plF x0) (fun _ => none)
  obtain ⟨q6, eq6, uq6⟩ := rd_wk (fl := true) (fc0 rfl) (hunks_plF x0) (fun _ => none)
  simp -dsimp only [↓SD, SP, ↓reduceIte, Nat.reduceEqDiff, ini, frz, rdAo, rd3o, rd2o, rdpo, rd1o, fnv, intv, VOp.dst, getRo, solEo, solo, solo1, allsz, List.all_cons, List.all_nil, Bool.and_true, beq_self_eq_true, List.length_cons, List.length_nil, Nat.zero_add, srcv, Nat.le_refl, List.take_succ_cons, List.take_zero, and_self, if_true, Nat.reduceAdd, Nat.reduceLT, eq_self, ↓r_any, ↓rp0, older_strs, older_lv, envL_cons, envL_nil, ↓eq5, ↓eq6]
  refine call_rule (OK.wk (hunks_in x0 ok0) (.cons uq5 ( .cons uq6 (.nil)))) ?_
  rintro lz0 hz0 r pz0 qz0 rfl
  simp -dsimp only [↓SD, SP, ↓reduceIte, Nat.reduceEqDiff, ini, frz, rdAo, rd3o, rd2o, rdpo, rd1o, fnv, intv, VOp.dst, getRo, solEo, solo, solo1, allsz, List.all_cons, List.all_nil, Bool.and_true, beq_self_eq_true, List.length_cons, List.length_nil, Nat.zero_add, srcv, Nat.le_refl, List.take_succ_cons, List.take_zero, and_self, if_true, Nat.reduceAdd, Nat.reduceLT, eq_self, ↓r_any, ↓rp0, older_strs, older_lv, envL_cons, envL_nil]
  refine gh_treeL 5 [(0, .old lo (hunksV x0)), (4, w), (6, g), (7, .int .i64 101)] wb0.2.1 (by decide) (by simp -dsimp only [↓SD, SP, ↓reduceIte, Nat.reduceEqDiff, ini, frz, rdAo, rd3o, rd2o, rdpo, rd1o, fnv, intv, VOp.dst, getRo, solEo, solo, solo1, allsz, List.all_cons, List.all_nil, Bool.and_true, beq_self_eq_true, List.length_cons, List.length_nil, Nat.zero_add, srcv, Nat.le_refl, List.take_succ_cons, List.take_zero, and_self, if_true, Nat.reduceAdd, Nat.reduceLT, eq_self, ↓rp0, older_strs, older_lv, envL_cons, envL_nil]) (wb0.sz rfl) (wb0.ge (by omega)) ?_ ?_
  · exact (.cons (by simp -dsimp only [↓SD, SP, ↓reduceIte, Nat.reduceEqDiff, ini, frz, rdAo, rd3o, rd2o, rdpo, rd1o, fnv, intv, VOp.dst, getRo, solEo, solo, solo1, allsz, List.all_cons, List.all_nil, Bool.and_true, beq_self_eq_true, List.length_cons, List.length_nil, Nat.zero_add, srcv, Nat.le_refl, List.take_succ_cons, List.take_zero, and_self, if_true, Nat.reduceAdd, Nat.reduceLT, eq_self, ↓rp0, older_strs, older_lv, envL_cons, envL_nil]) (av_old _ (wb0.ge (by omega))) (.cons (by simp -dsimp only [↓SD, SP, ↓reduceIte, Nat.reduceEqDiff, ini, frz, rdAo, rd3o, rd2o, rdpo, rd1o, fnv, intv, VOp.dst, getRo, solEo, solo, solo1, allsz, List.all_cons, List.all_nil, Bool.and_true, beq_self_eq_true, List.length_cons, List.length_nil, Nat.zero_add, srcv, Nat.le_refl, List.take_succ_cons, List.take_zero, and_self, if_true, Nat.reduceAdd, Nat.reduceLT, eq_self, ↓rp0, older_strs, older_lv, envL_cons, envL_nil]) (av_apart wb0 ww (by omega)) (.cons (by simp -dsimp only [↓SD, SP, ↓reduceIte, Nat.reduceEqDiff, ini, frz, rdAo, rd3o, rd2o, rdpo, rd1o, fnv, intv, VOp.dst, getRo, solEo, solo, solo1, allsz, List.all_cons, List.all_nil, Bool.and_true, beq_self_eq_true, List.length_cons, List.length_nil, Nat.zero_add, srcv, Nat.le_refl, List.take_succ_cons, List.take_zero, and_self, if_true, Nat.reduceAdd, Nat.reduceLT, eq_self, ↓rp0, older_strs, older_lv, envL_cons, envL_nil]) (av_apart wb0 wg (by omega)) (.cons (by simp -dsimp only [↓SD, SP, ↓reduceIte, Nat.reduceEqDiff, ini, frz, rdAo, rd3o, rd2o, rdpo, rd1o, fnv, intv, VOp.dst, getRo, solEo, solo, solo1, allsz, List.all_cons, List.all_nil, Bool.and_true, beq_self_eq_true, List.length_cons, List.length_nil, Nat.zero_add, srcv, Nat.le_refl, List.take_succ_cons, List.take_zero, and_self, if_true, Nat.reduceAdd, Nat.reduceLT, eq_self, ↓rp0, older_strs, older_lv, envL_cons, envL_nil]) (.int _ _) .nil))))
  simp -dsimp only [↓SD, SP, ↓reduceIte, Nat.reduceEqDiff, ini, frz, rdAo, rd3o, rd2o, rdpo, rd1o, fnv, intv, VOp.dst, getRo, solEo, solo, solo1, allsz, List.all_cons, List.all_nil, Bool.and_true, beq_self_eq_true, List.length_cons, List.length_nil, Nat.zero_add, srcv, Nat.le_refl, List.take_succ_cons, List.take_zero, and_self, if_true, Nat.reduceAdd, Nat.reduceLT, eq_self, ↓r_any, ↓rp0, older_strs, older_lv, envL_cons, envL_nil]
  refine callm_all (gb0 101 (by omega) (by omega)) treeH_fz ?_
  rintro lm0 hm0 r H0 pm0 qm0 ⟨j0, rfl, s0, t0⟩
  have hnn : ¬ ((j0 : Nat) : Int) < 0 := by omega
  obtain ⟨q7, eq7, uq7⟩ := rd_wk (fl := false) wg.1 (hunks_pl _) H0
  obtain ⟨q8, eq8, uq8⟩ := rd_wk (fl := false) ww.1 (hunks_pl _) H0
  simp -dsimp only [↓SD, SP, ↓reduceIte, Nat.reduceEqDiff, ini, frz, rdAo, rd3o, rd2o, rdpo, rd1o, fnv, intv, VOp.dst, getRo, solEo, solo, solo1, allsz, List.all_cons, List.all_nil, Bool.and_true, beq_self_eq_true, List.length_cons, List.length_nil, Nat.zero_add, srcv, Nat.le_refl, List.take_succ_cons, List.take_zero, and_self, if_true, Nat.reduceAdd, Nat.reduceLT, eq_self, ↓r_any, ↓rp0, older_strs, older_lv, envL_cons, envL_nil, hnn, ↓eq7, ↓eq8]
  refine call_rule (OK.wk (hunks_eq (backL x0) (backL_ok x0).1 (backL_ok x0).2) (.cons uq7 ( .cons uq8 (.nil)))) ?_
  rintro ly2 hy2 r py2 qy2 rfl
  simp -dsimp only [↓SD, SP, ↓reduceIte, Nat.reduceEqDiff, ini, frz, rdAo, rd3o, rd2o, rdpo, rd1o, fnv, intv, VOp.dst, getRo, solEo, solo, solo1, allsz, List.all_cons, List.all_nil, Bool.and_true, beq_self_eq_true, List.length_cons, List.length_nil, Nat.zero_add, srcv, Nat.le_refl, List.take_succ_cons, List.take_zero, and_self, if_true, Nat.reduceAdd, Nat.reduceLT, eq_self, ↓r_any, ↓rp0, older_strs, older_lv, envL_cons, envL_nil]
  refine gh_treeL 6 [(0, .old lo (hunksV x0)), (4, w), (8, .int .i64 101)] wg.2.1 (by decide) (by simp -dsimp only [↓SD, SP, ↓reduceIte, Nat.reduceEqDiff, ini, frz, rdAo, rd3o, rd2o, rdpo, rd1o, fnv, intv, VOp.dst, getRo, solEo, solo, solo1, allsz, List.all_cons, List.all_nil, Bool.and_true, beq_self_eq_true, List.length_cons, List.length_nil, Nat.zero_add, srcv, Nat.le_refl, List.take_succ_cons, List.take_zero, and_self, if_true, Nat.reduceAdd, Nat.reduceLT, eq_self, ↓rp0, older_strs, older_lv, envL_cons, envL_nil]) (wg.sz rfl) (wg.ge (by omega)) ?_ ?_
  · exact (.cons (by simp -dsimp only [↓SD, SP, ↓reduceIte, Nat.reduceEqDiff, ini, frz, rdAo, rd3o, rd2o, rdpo, rd1o, fnv, intv, VOp.dst, getRo, solEo, solo, solo1, allsz, List.all_cons, List.all_nil, Bool.and_true, beq_self_eq_true, List.length_cons, List.length_nil, Nat.zero_add, srcv, Nat.le_refl, List.take_succ_cons, List.take_zero, and_self, if_true, Nat.reduceAdd, Nat.reduceLT, eq_self, ↓rp0, older_strs, older_lv, envL_cons, envL_nil]) (av_old _ (wg.ge (by omega))) (.cons (by simp -dsimp only [↓SD, SP, ↓reduceIte, Nat.reduceEqDiff, ini, frz, rdAo, rd3o, rd2o, rdpo, rd1o, fnv, intv, VOp.dst, getRo, solEo, solo, solo1, allsz, List.all_cons, List.all_nil, Bool.and_true, beq_self_eq_true, List.length_cons, List.length_nil, Nat.zero_add, srcv, Nat.le_refl, List.take_succ_cons, List.take_zero, and_self, if_true, Nat.reduceAdd, Nat.reduceLT, eq_self, ↓rp0, older_strs, older_lv, envL_cons, envL_nil]) (av_apart wg ww (by omega)) (.cons (by simp -dsimp only [↓SD, SP, ↓reduceIte, Nat.reduceEqDiff, ini, frz, rdAo, rd3o, rd2o, rdpo, rd1o, fnv, intv, VOp.dst, getRo, solEo, solo, solo1, allsz, List.all_cons, List.all_nil, Bool.and_true, beq_self_eq_true, List.length_cons, List.length_nil, Nat.zero_add, srcv, Nat.le_refl, List.take_succ_cons, List.take_zero, and_self, if_true, Nat.reduceAdd, Nat.reduceLT, eq_self, ↓rp0, older_strs, older_lv, envL_cons, envL_nil]) (.int _ _) .nil)))
  obtain ⟨jm, s9, t9, hM⟩ := mg 101 (by omega) (by omega)
  simp -dsimp only [↓SD, SP, ↓reduceIte, Nat.reduceEqDiff, ini, frz, rdAo, rd3o, rd2o, rdpo, rd1o, fnv, intv, VOp.dst, getRo, solEo, solo, solo1, allsz, List.all_cons, List.all_nil, Bool.and_true, beq_self_eq_true, List.length_cons, List.length_nil, Nat.zero_add, srcv, Nat.le_refl, List.take_succ_cons, List.take_zero, and_self, if_true, Nat.reduceAdd, Nat.reduceLT, eq_self, ↓r_any, ↓rp0, older_strs, older_lv, envL_cons, envL_nil]
  refine callm_all hM treeH_fz ?_
  rintro lm hm r HM pm qm ⟨rfl, hnf, hheld⟩
  have hnn2 : ¬ ((jm : Nat) : Int) < 0 := by omega
  simp -dsimp only [↓SD, SP, ↓reduceIte, Nat.reduceEqDiff, ini, frz, rdAo, rd3o, rd2o, rdpo, rd1o, fnv, intv, VOp.dst, getRo, solEo, solo, solo1, allsz, List.all_cons, List.all_nil, Bool.and_true, beq_self_eq_true, List.length_cons, List.length_nil, Nat.zero_add, srcv, Nat.le_refl, List.take_succ_cons, List.take_zero, and_self, if_true, Nat.reduceAdd, Nat.reduceLT, eq_self, ↓r_any, ↓rp0, older_strs, older_lv, envL_cons, envL_nil]
  refine callm_all hheld hnf ?_
  rintro ln hn r HN pn qn ⟨rfl, rfl⟩
  simp -dsimp only [↓SD, SP, ↓reduceIte, Nat.reduceEqDiff, ini, frz, rdAo, rd3o, rd2o, rdpo, rd1o, fnv, intv, VOp.dst, getRo, solEo, solo, solo1, allsz, List.all_cons, List.all_nil, Bool.and_true, beq_self_eq_true, List.length_cons, List.length_nil, Nat.zero_add, srcv, Nat.le_refl, List.take_succ_cons, List.take_zero, and_self, if_true, Nat.reduceAdd, Nat.reduceLT, eq_self, ↓r_any, ↓rp0, older_strs, older_lv, envL_cons, envL_nil, hnn2]
  refine call_rule (hunks_toA x0 true ok0) ?_
  rintro ld0 hd0 d0 pd0 qd0 ⟨wd0, fd0, gd0⟩
  obtain ⟨q9, eq9, uq9⟩ := rd_wk (fl := false) wd0.1 (hunks_pl x0) HN
  simp -dsimp only [↓SD, SP, ↓reduceIte, Nat.reduceEqDiff, ini, frz, rdAo, rd3o, rd2o, rdpo, rd1o, fnv, intv, VOp.dst, getRo, solEo, solo, solo1, allsz, List.all_cons, List.all_nil, Bool.and_true, beq_self_eq_true, List.length_cons, List.length_nil, Nat.zero_add, srcv, Nat.le_refl, List.take_succ_cons, List.take_zero, and_self, if_true, Nat.reduceAdd, Nat.reduceLT, eq_self, ↓r_any, ↓rp0, older_strs, older_lv, envL_cons, envL_nil, ↓eq9]
  refine call_rule (OK.wk (n_implPatchBack x0 ok0) (.cons uq9 (.nil))) ?_
  rintro lh hh h ph qh ⟨wh, mh⟩
  obtain ⟨q10, eq10, uq10⟩ := rd_wk (fl := false) wh.1 (hunks_pl _) HN
  obtain ⟨q11, eq11, uq11⟩ := rd_wk (fl := false) ww.1 (hunks_pl _) HN
  simp -dsimp only [↓SD, SP, ↓reduceIte, Nat.reduceEqDiff, ini, frz, rdAo, rd3o, rd2o, rdpo, rd1o, fnv, intv, VOp.dst, getRo, solEo, solo, solo1, allsz, List.all_cons, List.all_nil, Bool.and_true, beq_self_eq_true, List.length_cons, List.length_nil, Nat.zero_add, srcv, Nat.le_refl, List.take_succ_cons, List.take_zero, and_self, if_true, Nat.reduceAdd, Nat.reduceLT, eq_self, ↓r_any, ↓rp0, older_strs, older_lv, envL_cons, envL_nil, ↓eq10, ↓eq11]
  refine call_rule (OK.wk (hunks_eq (backL x0) (backL_ok x0).1 (backL_ok x0).2) (.cons uq10 ( .cons uq11 (.nil)))) ?_
  rintro ly3 hy3 r py3 qy3 rfl
  simp -dsimp only [↓SD, SP, ↓reduceIte, Nat.reduceEqDiff, ini, frz, rdAo, rd3o, rd2o, rdpo, rd1o, fnv, intv, VOp.dst, getRo, solEo, solo, solo1, allsz, List.all_cons, List.all_nil, Bool.and_true, beq_self_eq_true, List.length_cons, List.length_nil, Nat.zero_add, srcv, Nat.le_refl, List.take_succ_cons, List.take_zero, and_self, if_true, Nat.reduceAdd, Nat.reduceLT, eq_self, ↓r_any, ↓rp0, older_strs, older_lv, envL_cons, envL_nil]
  refine callm_all hheld hnf ?_
  rintro lo2 ho2 r HO po qo ⟨rfl, rfl⟩
  simp -dsimp only [↓SD, SP, ↓reduceIte, Nat.reduceEqDiff, ini, frz, rdAo, rd3o, rd2o, rdpo, rd1o, fnv, intv, VOp.dst, getRo, solEo, solo, solo1, allsz, List.all_cons, List.all_nil, Bool.and_true, beq_self_eq_true, List.length_cons, List.length_nil, Nat.zero_add, srcv, Nat.le_refl, List.take_succ_cons, List.take_zero, and_self, if_true, Nat.reduceAdd, Nat.reduceLT, eq_self, ↓r_any, ↓rp0, older_strs, older_lv, envL_cons, envL_nil, hnn2]
end Go.AVM
