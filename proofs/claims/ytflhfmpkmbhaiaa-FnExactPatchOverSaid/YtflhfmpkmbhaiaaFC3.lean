/- impl.PatchOk; the law. -/
import Derived.Test.YtflhfmpkmbhaiaaFC2
set_option linter.unusedSimpArgs false
set_option linter.unusedVariables false
namespace Go.AVM
theorem s_implPatchOk (d : List HunkL) (hd : okHs d) : OK Go.Proofs.Try.prog 42 [hunksV d] (fun _ _ r => r = .bool (patchOk d)) := by
  refine fn_ok k42 rfl ?_
  have h53 := fun xs h => s18 xs h
  have hin := s_within
  have hend := s_end
  generalize OK Go.Proofs.Try.prog = L at *
  intro lo
  have hlen := hd.1
  simp -dsimp only [↓SD, SP, ↓reduceIte, Nat.reduceEqDiff, ini, frz, rdAo, rd3o, rd2o, rdpo, rd1o, fnv, intv, VOp.dst, getRo, solEo, solo, solo1, allsz, List.all_cons, List.all_nil, Bool.and_true, beq_self_eq_true, List.length_cons, List.length_nil, Nat.zero_add, srcv, Nat.le_refl, List.take_succ_cons, List.take_zero, and_self, if_true, Nat.reduceAdd, Nat.reduceLT, eq_self, c42, l_lv]
  refine loop_rule (fun m E H n => ∃ i : Nat, m + i = d.length ∧ E 0 = hunksV d ∧ E 5 = hunksV d ∧ E 6 = .int .i64 d.length ∧ E 7 = .int .i64 i ∧ ∀ j, j < i → pk d j = true)
    (fun e E H n => (e = .exit 0 ∧ E 0 = hunksV d ∧ patchOk d = decide (d.length ≤ 8)) ∨ (e = .ret ∧ E 2 = .bool (patchOk d))) d.length ⟨0, rfl, rfl, rfl, rfl, rfl, fun j h => by omega⟩ ?_ ?_
  · rintro e E H n (⟨rfl, h0, h1⟩ | ⟨rfl, h2⟩)
    · simp -dsimp only [↓SD, SP, ↓reduceIte, Nat.reduceEqDiff, ini, frz, rdAo, rd3o, rd2o, rdpo, rd1o, fnv, intv, VOp.dst, getRo, solEo, solo, solo1, allsz, List.all_cons, List.all_nil, Bool.and_true, beq_self_eq_true, List.length_cons, List.length_nil, Nat.zero_add, srcv, Nat.le_refl, List.take_succ_cons, List.take_zero, and_self, if_true, Nat.reduceAdd, Nat.reduceLT, eq_self, h0, h1, l_lv, Int.ofNat_le, show (8 : Int) = ((8 : Nat) : Int) from rfl]
    · simp -dsimp only [↓SD, SP, ↓reduceIte, Nat.reduceEqDiff, ini, frz, rdAo, rd3o, rd2o, rdpo, rd1o, fnv, intv, VOp.dst, getRo, solEo, solo, solo1, allsz, List.all_cons, List.all_nil, Bool.and_true, beq_self_eq_true, List.length_cons, List.length_nil, Nat.zero_add, srcv, Nat.le_refl, List.take_succ_cons, List.take_zero, and_self, if_true, Nat.reduceAdd, Nat.reduceLT, eq_self, h2]
  · rintro m E H n Q K ⟨i, hm, h0, h5, h6, h7, hp⟩ hQ hK
    by_cases hi : i < d.length
    · have ho := hd.2 d[i] (List.getElem_mem hi)
      have no : pk d i = false → ∀ E H n, E 2 = .bool false → Q .ret E H n := fun h E H n h2 => hQ _ _ _ _ (.inr ⟨rfl, by rw [h2, patchOk_no hi h]⟩)
      have hpk := pk_at hi
      simp -dsimp only [↓SD, SP, ↓reduceIte, Nat.reduceEqDiff, ini, frz, rdAo, rd3o, rd2o, rdpo, rd1o, fnv, intv, VOp.dst, getRo, solEo, solo, solo1, allsz, List.all_cons, List.all_nil, Bool.and_true, beq_self_eq_true, List.length_cons, List.length_nil, Nat.zero_add, srcv, Nat.le_refl, List.take_succ_cons, List.take_zero, and_self, if_true, Nat.reduceAdd, Nat.reduceLT, eq_self, h0, h5, h6, h7, l_lv, Int.ofNat_lt, hi, x_lv el_hunk _ _ hi, ↓d_lv el_hunk, ↓r_any]
      refine bal_mk fun b hb => ?_
      obtain ⟨at_, less, more, hdi⟩ : ∃ a l m, d[i] = ⟨a, l, m⟩ := ⟨_, _, _, rfl⟩
      rw [hdi] at ho hpk ⊢
      simp -dsimp only [↓SD, SP, ↓reduceIte, Nat.reduceEqDiff, ini, frz, rdAo, rd3o, rd2o, rdpo, rd1o, fnv, intv, VOp.dst, getRo, solEo, solo, solo1, allsz, List.all_cons, List.all_nil, Bool.and_true, beq_self_eq_true, List.length_cons, List.length_nil, Nat.zero_add, srcv, Nat.le_refl, List.take_succ_cons, List.take_zero, and_self, if_true, Nat.reduceAdd, Nat.reduceLT, eq_self, fldAv, ↓ldv_f, ↓ldv_n, ↓stv_f, ↓stv_a, fldv, setf, bldv, small, Bool.true_and, List.getElem?_cons_zero, List.getElem?_cons_succ, List.set_cons_zero, List.set_cons_succ, Bool.false_eq_true, if_false, true_and, and_true, reduceCtorEq, false_implies, implies_true, forall_const, hunkV, ↓r_any]
      refine call_rule (hin _ _ _) ?_
      rintro lo1 hi1 r - - rfl
      by_cases hr : 0 ≤ at_ ∧ at_ ≤ 10
      case neg =>
        simp -dsimp only [↓SD, SP, ↓reduceIte, Nat.reduceEqDiff, ini, frz, rdAo, rd3o, rd2o, rdpo, rd1o, fnv, intv, VOp.dst, getRo, solEo, solo, solo1, allsz, List.all_cons, List.all_nil, Bool.and_true, beq_self_eq_true, List.length_cons, List.length_nil, Nat.zero_add, srcv, Nat.le_refl, List.take_succ_cons, List.take_zero, and_self, if_true, Nat.reduceAdd, Nat.reduceLT, eq_self, fldAv, ↓ldv_f, ↓ldv_n, ↓stv_f, ↓stv_a, fldv, setf, bldv, small, Bool.true_and, List.getElem?_cons_zero, List.getElem?_cons_succ, List.set_cons_zero, List.set_cons_succ, Bool.false_eq_true, if_false, true_and, and_true, reduceCtorEq, false_implies, implies_true, forall_const, hr, ↓r_any]
        refine no (by rw [hpk]; simp [hOk]; omega) _ _ _ ?_
        simp -dsimp only [↓SD, SP, ↓reduceIte, Nat.reduceEqDiff, ini, frz, rdAo, rd3o, rd2o, rdpo, rd1o, fnv, intv, VOp.dst, getRo, solEo, solo, solo1, allsz, List.all_cons, List.all_nil, Bool.and_true, beq_self_eq_true, List.length_cons, List.length_nil, Nat.zero_add, srcv, Nat.le_refl, List.take_succ_cons, List.take_zero, and_self, if_true, Nat.reduceAdd, Nat.reduceLT, eq_self]
      simp -dsimp only [↓SD, SP, ↓reduceIte, Nat.reduceEqDiff, ini, frz, rdAo, rd3o, rd2o, rdpo, rd1o, fnv, intv, VOp.dst, getRo, solEo, solo, solo1, allsz, List.all_cons, List.all_nil, Bool.and_true, beq_self_eq_true, List.length_cons, List.length_nil, Nat.zero_add, srcv, Nat.le_refl, List.take_succ_cons, List.take_zero, and_self, if_true, Nat.reduceAdd, Nat.reduceLT, eq_self, fldAv, ↓ldv_f, ↓ldv_n, ↓stv_f, ↓stv_a, fldv, setf, bldv, small, Bool.true_and, List.getElem?_cons_zero, List.getElem?_cons_succ, List.set_cons_zero, List.set_cons_succ, Bool.false_eq_true, if_false, true_and, and_true, reduceCtorEq, false_implies, implies_true, forall_const, hr, ↓rd_strs, ↓r_any]
      refine call_rule (h53 _ ho.1) ?_
      rintro lo2 hi2 r - - rfl
      cases h1 : textOk less
      · simp -dsimp only [↓SD, SP, ↓reduceIte, Nat.reduceEqDiff, ini, frz, rdAo, rd3o, rd2o, rdpo, rd1o, fnv, intv, VOp.dst, getRo, solEo, solo, solo1, allsz, List.all_cons, List.all_nil, Bool.and_true, beq_self_eq_true, List.length_cons, List.length_nil, Nat.zero_add, srcv, Nat.le_refl, List.take_succ_cons, List.take_zero, and_self, if_true, Nat.reduceAdd, Nat.reduceLT, eq_self, fldAv, ↓ldv_f, ↓ldv_n, ↓stv_f, ↓stv_a, fldv, setf, bldv, small, Bool.true_and, List.getElem?_cons_zero, List.getElem?_cons_succ, List.set_cons_zero, List.set_cons_succ, Bool.false_eq_true, if_false, true_and, and_true, reduceCtorEq, false_implies, implies_true, forall_const, ↓r_any]
        refine no (by rw [hpk]; simp [hOk, h1]) _ _ _ ?_
        simp -dsimp only [↓SD, SP, ↓reduceIte, Nat.reduceEqDiff, ini, frz, rdAo, rd3o, rd2o, rdpo, rd1o, fnv, intv, VOp.dst, getRo, solEo, solo, solo1, allsz, List.all_cons, List.all_nil, Bool.and_true, beq_self_eq_true, List.length_cons, List.length_nil, Nat.zero_add, srcv, Nat.le_refl, List.take_succ_cons, List.take_zero, and_self, if_true, Nat.reduceAdd, Nat.reduceLT, eq_self]
      simp -dsimp only [↓SD, SP, ↓reduceIte, Nat.reduceEqDiff, ini, frz, rdAo, rd3o, rd2o, rdpo, rd1o, fnv, intv, VOp.dst, getRo, solEo, solo, solo1, allsz, List.all_cons, List.all_nil, Bool.and_true, beq_self_eq_true, List.length_cons, List.length_nil, Nat.zero_add, srcv, Nat.le_refl, List.take_succ_cons, List.take_zero, and_self, if_true, Nat.reduceAdd, Nat.reduceLT, eq_self, fldAv, ↓ldv_f, ↓ldv_n, ↓stv_f, ↓stv_a, fldv, setf, bldv, small, Bool.true_and, List.getElem?_cons_zero, List.getElem?_cons_succ, List.set_cons_zero, List.set_cons_succ, Bool.false_eq_true, if_false, true_and, and_true, reduceCtorEq, false_implies, implies_true, forall_const, ↓rd_strs, ↓r_any]
      refine call_rule (h53 _ ho.2) ?_
      rintro lo3 hi3 r - - rfl
      cases h2 : textOk more
      · simp -dsimp only [↓SD, SP, ↓reduceIte, Nat.reduceEqDiff, ini, frz, rdAo, rd3o, rd2o, rdpo, rd1o, fnv, intv, VOp.dst, getRo, solEo, solo, solo1, allsz, List.all_cons, List.all_nil, Bool.and_true, beq_self_eq_true, List.length_cons, List.length_nil, Nat.zero_add, srcv, Nat.le_refl, List.take_succ_cons, List.take_zero, and_self, if_true, Nat.reduceAdd, Nat.reduceLT, eq_self, fldAv, ↓ldv_f, ↓ldv_n, ↓stv_f, ↓stv_a, fldv, setf, bldv, small, Bool.true_and, List.getElem?_cons_zero, List.getElem?_cons_succ, List.set_cons_zero, List.set_cons_succ, Bool.false_eq_true, if_false, true_and, and_true, reduceCtorEq, false_implies, implies_true, forall_const, ↓r_any]
        refine no (by rw [hpk]; simp [hOk, h2]) _ _ _ ?_
        simp -dsimp only [↓SD, SP, ↓reduceIte, Nat.reduceEqDiff, ini, frz, rdAo, rd3o, rd2o, rdpo, rd1o, fnv, intv, VOp.dst, getRo, solEo, solo, solo1, allsz, List.all_cons, List.all_nil, Bool.and_true, beq_self_eq_true, List.length_cons, List.length_nil, Nat.zero_add, srcv, Nat.le_refl, List.take_succ_cons, List.take_zero, and_self, if_true, Nat.reduceAdd, Nat.reduceLT, eq_self]
      have l1 := textOk_len h1
      have l2 := textOk_len h2
      by_cases hz : (less.length : Int) + more.length = 0
      · simp -dsimp only [↓SD, SP, ↓reduceIte, Nat.reduceEqDiff, ini, frz, rdAo, rd3o, rd2o, rdpo, rd1o, fnv, intv, VOp.dst, getRo, solEo, solo, solo1, allsz, List.all_cons, List.all_nil, Bool.and_true, beq_self_eq_true, List.length_cons, List.length_nil, Nat.zero_add, srcv, Nat.le_refl, List.take_succ_cons, List.take_zero, and_self, if_true, Nat.reduceAdd, Nat.reduceLT, eq_self, fldAv, ↓ldv_f, ↓ldv_n, ↓stv_f, ↓stv_a, fldv, setf, bldv, small, Bool.true_and, List.getElem?_cons_zero, List.getElem?_cons_succ, List.set_cons_zero, List.set_cons_succ, Bool.false_eq_true, if_false, true_and, and_true, reduceCtorEq, false_implies, implies_true, forall_const, ↓r_any, l_strs, wrap64 ((less.length : Int) + more.length) (by omega), hz, wrap64 0 (by decide)]
        refine no (by rw [hpk, show hOk ⟨at_, less, more⟩ = false by simp only [hOk, show less.length + more.length = 0 by omega, decide_true, Bool.not_true, Bool.and_false]]; rfl) _ _ _ ?_
        simp -dsimp only [↓SD, SP, ↓reduceIte, Nat.reduceEqDiff, ini, frz, rdAo, rd3o, rd2o, rdpo, rd1o, fnv, intv, VOp.dst, getRo, solEo, solo, solo1, allsz, List.all_cons, List.all_nil, Bool.and_true, beq_self_eq_true, List.length_cons, List.length_nil, Nat.zero_add, srcv, Nat.le_refl, List.take_succ_cons, List.take_zero, and_self, if_true, Nat.reduceAdd, Nat.reduceLT, eq_self]
      have hok : hOk ⟨at_, less, more⟩ = true := by
        simp only [hOk, hr, h1, h2, and_self, decide_true, Bool.and_self, Bool.true_and, show ¬ less.length + more.length = 0 by omega, decide_false, Bool.not_false]
      by_cases hi0 : (0 : Int) < i
      · have hi1 : i - 1 < d.length := by omega
        have hq := hp (i - 1) (by omega)
        rw [pk_at hi1] at hq
        have hq' := hOk_at (Bool.and_eq_true_iff.1 hq).1
        have hg : d.getD (i - 1) h0L = d[i - 1] := by simp [List.getD_eq_getElem?_getD, hi1]
        rw [hg, hok] at hpk
        have hxi := x_lv el_hunk d (i - 1) hi1
        rw [show ((i - 1 : Nat) : Int) = (i : Int) - 1 by omega] at hxi
        simp -dsimp only [↓SD, SP, ↓reduceIte, Nat.reduceEqDiff, ini, frz, rdAo, rd3o, rd2o, rdpo, rd1o, fnv, intv, VOp.dst, getRo, solEo, solo, solo1, allsz, List.all_cons, List.all_nil, Bool.and_true, beq_self_eq_true, List.length_cons, List.length_nil, Nat.zero_add, srcv, Nat.le_refl, List.take_succ_cons, List.take_zero, and_self, if_true, Nat.reduceAdd, Nat.reduceLT, eq_self, fldAv, ↓ldv_f, ↓ldv_n, ↓stv_f, ↓stv_a, fldv, setf, bldv, small, Bool.true_and, List.getElem?_cons_zero, List.getElem?_cons_succ, List.set_cons_zero, List.set_cons_succ, Bool.false_eq_true, if_false, true_and, and_true, reduceCtorEq, false_implies, implies_true, forall_const, h0, hi0, l_strs, wrap64 ((less.length : Int) + more.length) (by omega), hz, hxi, ↓d_lv el_hunk, ↓rd_hunk, wrap64 ((i : Int) - 1) (by omega), ↓r_any]
        refine call_rule (hend d[i - 1] (by omega) (by omega)) ?_
        rintro lo4 hi4 r - - rfl
        by_cases hc : at_ ≤ d[i - 1].at_ + d[i - 1].less.length
        · simp -dsimp only [↓SD, SP, ↓reduceIte, Nat.reduceEqDiff, ini, frz, rdAo, rd3o, rd2o, rdpo, rd1o, fnv, intv, VOp.dst, getRo, solEo, solo, solo1, allsz, List.all_cons, List.all_nil, Bool.and_true, beq_self_eq_true, List.length_cons, List.length_nil, Nat.zero_add, srcv, Nat.le_refl, List.take_succ_cons, List.take_zero, and_self, if_true, Nat.reduceAdd, Nat.reduceLT, eq_self, fldAv, ↓ldv_f, ↓ldv_n, ↓stv_f, ↓stv_a, fldv, setf, bldv, small, Bool.true_and, List.getElem?_cons_zero, List.getElem?_cons_succ, List.set_cons_zero, List.set_cons_succ, Bool.false_eq_true, if_false, true_and, and_true, reduceCtorEq, false_implies, implies_true, forall_const, hc, ↓r_any]
          refine no (by rw [hpk]; simp; omega) _ _ _ ?_
          simp -dsimp only [↓SD, SP, ↓reduceIte, Nat.reduceEqDiff, ini, frz, rdAo, rd3o, rd2o, rdpo, rd1o, fnv, intv, VOp.dst, getRo, solEo, solo, solo1, allsz, List.all_cons, List.all_nil, Bool.and_true, beq_self_eq_true, List.length_cons, List.length_nil, Nat.zero_add, srcv, Nat.le_refl, List.take_succ_cons, List.take_zero, and_self, if_true, Nat.reduceAdd, Nat.reduceLT, eq_self]
        · simp -dsimp only [↓SD, SP, ↓reduceIte, Nat.reduceEqDiff, ini, frz, rdAo, rd3o, rd2o, rdpo, rd1o, fnv, intv, VOp.dst, getRo, solEo, solo, solo1, allsz, List.all_cons, List.all_nil, Bool.and_true, beq_self_eq_true, List.length_cons, List.length_nil, Nat.zero_add, srcv, Nat.le_refl, List.take_succ_cons, List.take_zero, and_self, if_true, Nat.reduceAdd, Nat.reduceLT, eq_self, fldAv, ↓ldv_f, ↓ldv_n, ↓stv_f, ↓stv_a, fldv, setf, bldv, small, Bool.true_and, List.getElem?_cons_zero, List.getElem?_cons_succ, List.set_cons_zero, List.set_cons_succ, Bool.false_eq_true, if_false, true_and, and_true, reduceCtorEq, false_implies, implies_true, forall_const, hc, h7, ↓r_any, wrap64 ((i : Int) + 1) (by omega)]
          refine hK (m - 1) _ _ _ (by omega) ⟨i + 1, by omega, ?_, ?_, ?_, ?_, fun j hj => ?_⟩
          · simp -dsimp only [↓SD, SP, ↓reduceIte, Nat.reduceEqDiff, ini, frz, rdAo, rd3o, rd2o, rdpo, rd1o, fnv, intv, VOp.dst, getRo, solEo, solo, solo1, allsz, List.all_cons, List.all_nil, Bool.and_true, beq_self_eq_true, List.length_cons, List.length_nil, Nat.zero_add, srcv, Nat.le_refl, List.take_succ_cons, List.take_zero, and_self, if_true, Nat.reduceAdd, Nat.reduceLT, eq_self, h0]
          · simp -dsimp only [↓SD, SP, ↓reduceIte, Nat.reduceEqDiff, ini, frz, rdAo, rd3o, rd2o, rdpo, rd1o, fnv, intv, VOp.dst, getRo, solEo, solo, solo1, allsz, List.all_cons, List.all_nil, Bool.and_true, beq_self_eq_true, List.length_cons, List.length_nil, Nat.zero_add, srcv, Nat.le_refl, List.take_succ_cons, List.take_zero, and_self, if_true, Nat.reduceAdd, Nat.reduceLT, eq_self, h5]
          · simp -dsimp only [↓SD, SP, ↓reduceIte, Nat.reduceEqDiff, ini, frz, rdAo, rd3o, rd2o, rdpo, rd1o, fnv, intv, VOp.dst, getRo, solEo, solo, solo1, allsz, List.all_cons, List.all_nil, Bool.and_true, beq_self_eq_true, List.length_cons, List.length_nil, Nat.zero_add, srcv, Nat.le_refl, List.take_succ_cons, List.take_zero, and_self, if_true, Nat.reduceAdd, Nat.reduceLT, eq_self, h6]
          · simp -dsimp only [↓SD, SP, ↓reduceIte, Nat.reduceEqDiff, ini, frz, rdAo, rd3o, rd2o, rdpo, rd1o, fnv, intv, VOp.dst, getRo, solEo, solo, solo1, allsz, List.all_cons, List.all_nil, Bool.and_true, beq_self_eq_true, List.length_cons, List.length_nil, Nat.zero_add, srcv, Nat.le_refl, List.take_succ_cons, List.take_zero, and_self, if_true, Nat.reduceAdd, Nat.reduceLT, eq_self, Int.natCast_add, Int.natCast_one]
          · rcases Nat.lt_or_ge j i with h' | h'
            · exact hp j h'
            · obtain rfl : j = i := by omega
              rw [hpk]; simp; omega
      · obtain rfl : i = 0 := by omega
        simp -dsimp only [↓SD, SP, ↓reduceIte, Nat.reduceEqDiff, ini, frz, rdAo, rd3o, rd2o, rdpo, rd1o, fnv, intv, VOp.dst, getRo, solEo, solo, solo1, allsz, List.all_cons, List.all_nil, Bool.and_true, beq_self_eq_true, List.length_cons, List.length_nil, Nat.zero_add, srcv, Nat.le_refl, List.take_succ_cons, List.take_zero, and_self, if_true, Nat.reduceAdd, Nat.reduceLT, eq_self, fldAv, ↓ldv_f, ↓ldv_n, ↓stv_f, ↓stv_a, fldv, setf, bldv, small, Bool.true_and, List.getElem?_cons_zero, List.getElem?_cons_succ, List.set_cons_zero, List.set_cons_succ, Bool.false_eq_true, if_false, true_and, and_true, reduceCtorEq, false_implies, implies_true, forall_const, hi0, h7, l_strs, wrap64 ((less.length : Int) + more.length) (by omega), hz, ↓r_any, wrap64 (((0 : Nat) : Int) + 1) (by omega)]
        refine hK (m - 1) _ _ _ (by omega) ⟨1, by omega, ?_, ?_, ?_, ?_, fun j hj => ?_⟩
        · simp -dsimp only [↓SD, SP, ↓reduceIte, Nat.reduceEqDiff, ini, frz, rdAo, rd3o, rd2o, rdpo, rd1o, fnv, intv, VOp.dst, getRo, solEo, solo, solo1, allsz, List.all_cons, List.all_nil, Bool.and_true, beq_self_eq_true, List.length_cons, List.length_nil, Nat.zero_add, srcv, Nat.le_refl, List.take_succ_cons, List.take_zero, and_self, if_true, Nat.reduceAdd, Nat.reduceLT, eq_self, h0]
        · simp -dsimp only [↓SD, SP, ↓reduceIte, Nat.reduceEqDiff, ini, frz, rdAo, rd3o, rd2o, rdpo, rd1o, fnv, intv, VOp.dst, getRo, solEo, solo, solo1, allsz, List.all_cons, List.all_nil, Bool.and_true, beq_self_eq_true, List.length_cons, List.length_nil, Nat.zero_add, srcv, Nat.le_refl, List.take_succ_cons, List.take_zero, and_self, if_true, Nat.reduceAdd, Nat.reduceLT, eq_self, h5]
        · simp -dsimp only [↓SD, SP, ↓reduceIte, Nat.reduceEqDiff, ini, frz, rdAo, rd3o, rd2o, rdpo, rd1o, fnv, intv, VOp.dst, getRo, solEo, solo, solo1, allsz, List.all_cons, List.all_nil, Bool.and_true, beq_self_eq_true, List.length_cons, List.length_nil, Nat.zero_add, srcv, Nat.le_refl, List.take_succ_cons, List.take_zero, and_self, if_true, Nat.reduceAdd, Nat.reduceLT, eq_self, h6]
        · simp -dsimp only [↓SD, SP, ↓reduceIte, Nat.reduceEqDiff, ini, frz, rdAo, rd3o, rd2o, rdpo, rd1o, fnv, intv, VOp.dst, getRo, solEo, solo, solo1, allsz, List.all_cons, List.all_nil, Bool.and_true, beq_self_eq_true, List.length_cons, List.length_nil, Nat.zero_add, srcv, Nat.le_refl, List.take_succ_cons, List.take_zero, and_self, if_true, Nat.reduceAdd, Nat.reduceLT, eq_self]
          rfl
        · obtain rfl : j = 0 := by omega
          rw [hpk, hok]
          rfl
    · simp -dsimp only [↓SD, SP, ↓reduceIte, Nat.reduceEqDiff, ini, frz, rdAo, rd3o, rd2o, rdpo, rd1o, fnv, intv, VOp.dst, getRo, solEo, solo, solo1, allsz, List.all_cons, List.all_nil, Bool.and_true, beq_self_eq_true, List.length_cons, List.length_nil, Nat.zero_add, srcv, Nat.le_refl, List.take_succ_cons, List.take_zero, and_self, if_true, Nat.reduceAdd, Nat.reduceLT, eq_self, h6, h7, Int.ofNat_lt, hi]
      exact hQ _ _ _ _ (.inl ⟨rfl, h0, patchOk_yes fun j hj => hp j (by omega)⟩)
end Go.AVM
