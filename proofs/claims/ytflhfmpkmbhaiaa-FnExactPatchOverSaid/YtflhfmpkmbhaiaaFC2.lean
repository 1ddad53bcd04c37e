/- PatchOk. -/
import Derived.Test.YtflhfmpkmbhaiaaFC1
set_option linter.unusedSimpArgs false
set_option linter.unusedVariables false
namespace Go.AVM
theorem f_hunk0 (h : HunkL) : fldAv 0 (.lptr (hunkV h)) = some (.lptr (.int .i64 h.at_)) := by simp [fldAv, hunkV, AV.isAgg, AV.sz]
theorem f_hunk1 (h : HunkL) : fldAv 1 (.lptr (hunkV h)) = some (.lptr (strs h.less)) := by simp [fldAv, hunkV, strs, AV.isAgg, AV.sz]
theorem f_hunk2 (h : HunkL) : fldAv 2 (.lptr (hunkV h)) = some (.lptr (strs h.more)) := by simp [fldAv, hunkV, strs, AV.isAgg, AV.sz]
def hOk (h : HunkL) : Bool := decide (0 ≤ h.at_ ∧ h.at_ ≤ 10) && textOk h.less && textOk h.more && !decide (h.less.length + h.more.length = 0)
def h0L : HunkL := ⟨0, [], []⟩
def pk (d : List HunkL) (i : Nat) : Bool := hOk (d.getD i h0L) && (decide (i = 0) || decide ((d.getD (i - 1) h0L).at_ + (d.getD (i - 1) h0L).less.length < (d.getD i h0L).at_))
def patchOk (d : List HunkL) : Bool := (List.range d.length).all (pk d) && decide (d.length ≤ 8)
theorem patchOk_no {d : List HunkL} {i : Nat} (hi : i < d.length) (h : pk d i = false) : patchOk d = false := by
  have : (List.range d.length).all (pk d) = false := by
    rw [Bool.eq_false_iff]
    intro h'
    have := List.all_eq_true.1 h' i (List.mem_range.2 hi)
    rw [h] at this
    cases this
  simp [patchOk, this]
theorem patchOk_yes {d : List HunkL} (h : ∀ j, j < d.length → pk d j = true) : patchOk d = decide (d.length ≤ 8) := by
  have : (List.range d.length).all (pk d) = true := List.all_eq_true.2 fun j hj => h j (List.mem_range.1 hj)
  simp [patchOk, this]
theorem pk_at {d : List HunkL} {i : Nat} (hi : i < d.length) : pk d i = (hOk d[i] && (decide (i = 0) || decide ((d.getD (i - 1) h0L).at_ + (d.getD (i - 1) h0L).less.length < d[i].at_))) := by
  have : d.getD i h0L = d[i] := by simp [List.getD_eq_getElem?_getD, hi]
  simp only [pk, this]
theorem s_l1In (n a b : Int) : OK Go.Proofs.Try.prog 47 [.int .i64 n, .int .i64 a, .int .i64 b] (fun _ _ r => r = .bool (decide (a ≤ n ∧ n ≤ b))) := by
  refine fn_ok k47 rfl ?_
  generalize OK Go.Proofs.Try.prog = L
  intro lo
  by_cases h1 : a ≤ n
  · simp -dsimp only [↓SD, SP, ↓reduceIte, Nat.reduceEqDiff, ini, frz, rdAo, rd3o, rd2o, rdpo, rd1o, fnv, intv, VOp.dst, getRo, solEo, solo, solo1, allsz, List.all_cons, List.all_nil, Bool.and_true, beq_self_eq_true, List.length_cons, List.length_nil, Nat.zero_add, srcv, Nat.le_refl, List.take_succ_cons, List.take_zero, and_self, if_true, Nat.reduceAdd, Nat.reduceLT, eq_self, c47, h1]
    simp
  · simp -dsimp only [↓SD, SP, ↓reduceIte, Nat.reduceEqDiff, ini, frz, rdAo, rd3o, rd2o, rdpo, rd1o, fnv, intv, VOp.dst, getRo, solEo, solo, solo1, allsz, List.all_cons, List.all_nil, Bool.and_true, beq_self_eq_true, List.length_cons, List.length_nil, Nat.zero_add, srcv, Nat.le_refl, List.take_succ_cons, List.take_zero, and_self, if_true, Nat.reduceAdd, Nat.reduceLT, eq_self, c47, h1]
    simp
theorem s_within (n a b : Int) : OK Go.Proofs.Try.prog 55 [.int .i64 n, .int .i64 a, .int .i64 b] (fun _ _ r => r = .bool (decide (a ≤ n ∧ n ≤ b))) := by
  refine fn_ok k55 rfl ?_
  generalize OK Go.Proofs.Try.prog = L
  intro lo
  by_cases h1 : a ≤ n
  · simp -dsimp only [↓SD, SP, ↓reduceIte, Nat.reduceEqDiff, ini, frz, rdAo, rd3o, rd2o, rdpo, rd1o, fnv, intv, VOp.dst, getRo, solEo, solo, solo1, allsz, List.all_cons, List.all_nil, Bool.and_true, beq_self_eq_true, List.length_cons, List.length_nil, Nat.zero_add, srcv, Nat.le_refl, List.take_succ_cons, List.take_zero, and_self, if_true, Nat.reduceAdd, Nat.reduceLT, eq_self, c55, h1]
    simp
  · simp -dsimp only [↓SD, SP, ↓reduceIte, Nat.reduceEqDiff, ini, frz, rdAo, rd3o, rd2o, rdpo, rd1o, fnv, intv, VOp.dst, getRo, solEo, solo, solo1, allsz, List.all_cons, List.all_nil, Bool.and_true, beq_self_eq_true, List.length_cons, List.length_nil, Nat.zero_add, srcv, Nat.le_refl, List.take_succ_cons, List.take_zero, and_self, if_true, Nat.reduceAdd, Nat.reduceLT, eq_self, c55, h1]
    simp
theorem s_end (h : HunkL) (ha : -1000000 ≤ h.at_ ∧ h.at_ ≤ 1000000) (hl : h.less.length ≤ 1000000) : OK Go.Proofs.Try.prog 43 [hunkV h] (fun _ _ r => r = .int .i64 (h.at_ + h.less.length)) := by
  refine fn_ok k43 rfl ?_
  generalize OK Go.Proofs.Try.prog = L
  intro lo
  simp -dsimp only [↓SD, SP, ↓reduceIte, Nat.reduceEqDiff, ini, frz, rdAo, rd3o, rd2o, rdpo, rd1o, fnv, intv, VOp.dst, getRo, solEo, solo, solo1, allsz, List.all_cons, List.all_nil, Bool.and_true, beq_self_eq_true, List.length_cons, List.length_nil, Nat.zero_add, srcv, Nat.le_refl, List.take_succ_cons, List.take_zero, and_self, if_true, Nat.reduceAdd, Nat.reduceLT, eq_self, c43, hunkV]
  refine bal_mk fun b hb => ?_
  simp -dsimp only [↓SD, SP, ↓reduceIte, Nat.reduceEqDiff, ini, frz, rdAo, rd3o, rd2o, rdpo, rd1o, fnv, intv, VOp.dst, getRo, solEo, solo, solo1, allsz, List.all_cons, List.all_nil, Bool.and_true, beq_self_eq_true, List.length_cons, List.length_nil, Nat.zero_add, srcv, Nat.le_refl, List.take_succ_cons, List.take_zero, and_self, if_true, Nat.reduceAdd, Nat.reduceLT, eq_self, fldAv, ↓ldv_f, ↓ldv_n, ↓stv_f, ↓stv_a, fldv, setf, bldv, small, Bool.true_and, List.getElem?_cons_zero, List.getElem?_cons_succ, List.set_cons_zero, List.set_cons_succ, Bool.false_eq_true, if_false, true_and, and_true, reduceCtorEq, false_implies, implies_true, forall_const, l_strs, wrap64 (h.at_ + h.less.length) (by omega)]
theorem hOk_at {h : HunkL} (hh : hOk h = true) : 0 ≤ h.at_ ∧ h.at_ ≤ 10 ∧ h.less.length ≤ 10 ∧ h.more.length ≤ 10 := by
  simp [hOk] at hh
  exact ⟨hh.1.1.1.1, hh.1.1.1.2, textOk_len hh.1.1.2, textOk_len hh.1.2⟩
theorem s_l2Ok (d : List HunkL) (hd : okHs d) : OK Go.Proofs.Try.prog 32 [hunksV d] (fun _ _ r => r = .bool (patchOk d)) := by
  refine fn_ok k32 rfl ?_
  have h53 := fun xs h => s53 xs h
  have hin := s_l1In
  generalize OK Go.Proofs.Try.prog = L at *
  intro lo
  have hlen := hd.1
  simp -dsimp only [↓SD, SP, ↓reduceIte, Nat.reduceEqDiff, ini, frz, rdAo, rd3o, rd2o, rdpo, rd1o, fnv, intv, VOp.dst, getRo, solEo, solo, solo1, allsz, List.all_cons, List.all_nil, Bool.and_true, beq_self_eq_true, List.length_cons, List.length_nil, Nat.zero_add, srcv, Nat.le_refl, List.take_succ_cons, List.take_zero, and_self, if_true, Nat.reduceAdd, Nat.reduceLT, eq_self, c32]
  refine loop_rule (fun m E H n => ∃ i : Nat, m + i = d.length ∧ E 0 = hunksV d ∧ E 3 = .int .i64 i ∧ ∀ j, j < i → pk d j = true)
    (fun e E H n => (e = .exit 0 ∧ E 0 = hunksV d ∧ patchOk d = decide (d.length ≤ 8)) ∨ (e = .ret ∧ E 2 = .bool (patchOk d))) d.length ⟨0, rfl, rfl, rfl, fun j h => by omega⟩ ?_ ?_
  · rintro e E H n (⟨rfl, h0, h1⟩ | ⟨rfl, h2⟩)
    · simp -dsimp only [↓SD, SP, ↓reduceIte, Nat.reduceEqDiff, ini, frz, rdAo, rd3o, rd2o, rdpo, rd1o, fnv, intv, VOp.dst, getRo, solEo, solo, solo1, allsz, List.all_cons, List.all_nil, Bool.and_true, beq_self_eq_true, List.length_cons, List.length_nil, Nat.zero_add, srcv, Nat.le_refl, List.take_succ_cons, List.take_zero, and_self, if_true, Nat.reduceAdd, Nat.reduceLT, eq_self, h0, h1, l_lv, Int.ofNat_le, show (8 : Int) = ((8 : Nat) : Int) from rfl]
    · simp -dsimp only [↓SD, SP, ↓reduceIte, Nat.reduceEqDiff, ini, frz, rdAo, rd3o, rd2o, rdpo, rd1o, fnv, intv, VOp.dst, getRo, solEo, solo, solo1, allsz, List.all_cons, List.all_nil, Bool.and_true, beq_self_eq_true, List.length_cons, List.length_nil, Nat.zero_add, srcv, Nat.le_refl, List.take_succ_cons, List.take_zero, and_self, if_true, Nat.reduceAdd, Nat.reduceLT, eq_self, h2]
  · rintro m E H n Q K ⟨i, hm, h0, h3, hp⟩ hQ hK
    by_cases hi : i < d.length
    · have ho := hd.2 d[i] (List.getElem_mem hi)
      have no : pk d i = false → ∀ E H n, E 2 = .bool false → Q .ret E H n := fun h E H n h2 => hQ _ _ _ _ (.inr ⟨rfl, by rw [h2, patchOk_no hi h]⟩)
      have hpk := pk_at hi
      simp -dsimp only [↓SD, SP, ↓reduceIte, Nat.reduceEqDiff, ini, frz, rdAo, rd3o, rd2o, rdpo, rd1o, fnv, intv, VOp.dst, getRo, solEo, solo, solo1, allsz, List.all_cons, List.all_nil, Bool.and_true, beq_self_eq_true, List.length_cons, List.length_nil, Nat.zero_add, srcv, Nat.le_refl, List.take_succ_cons, List.take_zero, and_self, if_true, Nat.reduceAdd, Nat.reduceLT, eq_self, h0, h3, l_lv, Int.ofNat_lt, hi, x_lv el_hunk _ _ hi, f_hunk1, ↓d_strs, ↓rd_strs, ↓r_any]
      refine call_rule (h53 _ ho.1) ?_
      rintro lo1 hi1 r - - rfl
      cases h1 : textOk d[i].less
      · simp -dsimp only [↓SD, SP, ↓reduceIte, Nat.reduceEqDiff, ini, frz, rdAo, rd3o, rd2o, rdpo, rd1o, fnv, intv, VOp.dst, getRo, solEo, solo, solo1, allsz, List.all_cons, List.all_nil, Bool.and_true, beq_self_eq_true, List.length_cons, List.length_nil, Nat.zero_add, srcv, Nat.le_refl, List.take_succ_cons, List.take_zero, and_self, if_true, Nat.reduceAdd, Nat.reduceLT, eq_self, h0, h3, l_lv, ↓r_any]
        refine no (by rw [hpk]; simp [hOk, h1]) _ _ _ ?_
        simp -dsimp only [↓SD, SP, ↓reduceIte, Nat.reduceEqDiff, ini, frz, rdAo, rd3o, rd2o, rdpo, rd1o, fnv, intv, VOp.dst, getRo, solEo, solo, solo1, allsz, List.all_cons, List.all_nil, Bool.and_true, beq_self_eq_true, List.length_cons, List.length_nil, Nat.zero_add, srcv, Nat.le_refl, List.take_succ_cons, List.take_zero, and_self, if_true, Nat.reduceAdd, Nat.reduceLT, eq_self]
      simp -dsimp only [↓SD, SP, ↓reduceIte, Nat.reduceEqDiff, ini, frz, rdAo, rd3o, rd2o, rdpo, rd1o, fnv, intv, VOp.dst, getRo, solEo, solo, solo1, allsz, List.all_cons, List.all_nil, Bool.and_true, beq_self_eq_true, List.length_cons, List.length_nil, Nat.zero_add, srcv, Nat.le_refl, List.take_succ_cons, List.take_zero, and_self, if_true, Nat.reduceAdd, Nat.reduceLT, eq_self, h0, h3, x_lv el_hunk _ _ hi, f_hunk2, ↓d_strs, ↓rd_strs, ↓r_any]
      refine call_rule (h53 _ ho.2) ?_
      rintro lo2 hi2 r - - rfl
      cases h2 : textOk d[i].more
      · simp -dsimp only [↓SD, SP, ↓reduceIte, Nat.reduceEqDiff, ini, frz, rdAo, rd3o, rd2o, rdpo, rd1o, fnv, intv, VOp.dst, getRo, solEo, solo, solo1, allsz, List.all_cons, List.all_nil, Bool.and_true, beq_self_eq_true, List.length_cons, List.length_nil, Nat.zero_add, srcv, Nat.le_refl, List.take_succ_cons, List.take_zero, and_self, if_true, Nat.reduceAdd, Nat.reduceLT, eq_self, h0, h3, l_lv, ↓r_any]
        refine no (by rw [hpk]; simp [hOk, h2]) _ _ _ ?_
        simp -dsimp only [↓SD, SP, ↓reduceIte, Nat.reduceEqDiff, ini, frz, rdAo, rd3o, rd2o, rdpo, rd1o, fnv, intv, VOp.dst, getRo, solEo, solo, solo1, allsz, List.all_cons, List.all_nil, Bool.and_true, beq_self_eq_true, List.length_cons, List.length_nil, Nat.zero_add, srcv, Nat.le_refl, List.take_succ_cons, List.take_zero, and_self, if_true, Nat.reduceAdd, Nat.reduceLT, eq_self]
      have l1 := textOk_len h1
      have l2 := textOk_len h2
      by_cases hz : (d[i].less.length : Int) + d[i].more.length = 0
      · simp -dsimp only [↓SD, SP, ↓reduceIte, Nat.reduceEqDiff, ini, frz, rdAo, rd3o, rd2o, rdpo, rd1o, fnv, intv, VOp.dst, getRo, solEo, solo, solo1, allsz, List.all_cons, List.all_nil, Bool.and_true, beq_self_eq_true, List.length_cons, List.length_nil, Nat.zero_add, srcv, Nat.le_refl, List.take_succ_cons, List.take_zero, and_self, if_true, Nat.reduceAdd, Nat.reduceLT, eq_self, h0, h3, l_lv, ↓r_any, x_lv el_hunk _ _ hi, f_hunk1, f_hunk2, ↓d_strs, l_strs, wrap64 ((d[i].less.length : Int) + d[i].more.length) (by omega), hz, wrap64 0 (by decide)]
        refine no (by rw [hpk, show hOk d[i] = false by simp only [hOk, show d[i].less.length + d[i].more.length = 0 by omega, decide_true, Bool.not_true, Bool.and_false]]; rfl) _ _ _ ?_
        simp -dsimp only [↓SD, SP, ↓reduceIte, Nat.reduceEqDiff, ini, frz, rdAo, rd3o, rd2o, rdpo, rd1o, fnv, intv, VOp.dst, getRo, solEo, solo, solo1, allsz, List.all_cons, List.all_nil, Bool.and_true, beq_self_eq_true, List.length_cons, List.length_nil, Nat.zero_add, srcv, Nat.le_refl, List.take_succ_cons, List.take_zero, and_self, if_true, Nat.reduceAdd, Nat.reduceLT, eq_self]
      simp -dsimp only [↓SD, SP, ↓reduceIte, Nat.reduceEqDiff, ini, frz, rdAo, rd3o, rd2o, rdpo, rd1o, fnv, intv, VOp.dst, getRo, solEo, solo, solo1, allsz, List.all_cons, List.all_nil, Bool.and_true, beq_self_eq_true, List.length_cons, List.length_nil, Nat.zero_add, srcv, Nat.le_refl, List.take_succ_cons, List.take_zero, and_self, if_true, Nat.reduceAdd, Nat.reduceLT, eq_self, h0, h3, l_lv, ↓r_any, x_lv el_hunk _ _ hi, f_hunk0, f_hunk1, f_hunk2, ↓d_strs, ↓d_int, l_strs, wrap64 ((d[i].less.length : Int) + d[i].more.length) (by omega), hz]
      refine call_rule (hin _ _ _) ?_
      rintro lo3 hi3 r - - rfl
      by_cases hr : 0 ≤ d[i].at_ ∧ d[i].at_ ≤ 10
      · have hok : hOk d[i] = true := by
          simp only [hOk, hr, h1, h2, and_self, decide_true, Bool.and_self, Bool.true_and, show ¬ d[i].less.length + d[i].more.length = 0 by omega, decide_false, Bool.not_false]
        by_cases hi0 : (0 : Int) < i
        · have hi1 : i - 1 < d.length := by omega
          have hq := hp (i - 1) (by omega)
          rw [pk_at hi1] at hq
          have hq' := hOk_at (Bool.and_eq_true_iff.1 hq).1
          have hg : d.getD (i - 1) h0L = d[i - 1] := by simp [List.getD_eq_getElem?_getD, hi1]
          rw [hg, hok] at hpk
          have hxi := x_lv el_hunk d (i - 1) hi1
          rw [show ((i - 1 : Nat) : Int) = (i : Int) - 1 by omega] at hxi
          by_cases hc : d[i].at_ ≤ d[i - 1].at_ + d[i - 1].less.length
          · simp -dsimp only [↓SD, SP, ↓reduceIte, Nat.reduceEqDiff, ini, frz, rdAo, rd3o, rd2o, rdpo, rd1o, fnv, intv, VOp.dst, getRo, solEo, solo, solo1, allsz, List.all_cons, List.all_nil, Bool.and_true, beq_self_eq_true, List.length_cons, List.length_nil, Nat.zero_add, srcv, Nat.le_refl, List.take_succ_cons, List.take_zero, and_self, if_true, Nat.reduceAdd, Nat.reduceLT, eq_self, h0, h3, hr, hi0, ↓r_any, x_lv el_hunk _ _ hi, hxi, f_hunk0, f_hunk1, f_hunk2, ↓d_strs, ↓d_int, l_strs, wrap64 ((i : Int) - 1) (by omega), wrap64 (d[i - 1].at_ + d[i - 1].less.length) (by omega), hc]
            refine no (by rw [hpk]; simp; omega) _ _ _ ?_
            simp -dsimp only [↓SD, SP, ↓reduceIte, Nat.reduceEqDiff, ini, frz, rdAo, rd3o, rd2o, rdpo, rd1o, fnv, intv, VOp.dst, getRo, solEo, solo, solo1, allsz, List.all_cons, List.all_nil, Bool.and_true, beq_self_eq_true, List.length_cons, List.length_nil, Nat.zero_add, srcv, Nat.le_refl, List.take_succ_cons, List.take_zero, and_self, if_true, Nat.reduceAdd, Nat.reduceLT, eq_self]
          · simp -dsimp only [↓SD, SP, ↓reduceIte, Nat.reduceEqDiff, ini, frz, rdAo, rd3o, rd2o, rdpo, rd1o, fnv, intv, VOp.dst, getRo, solEo, solo, solo1, allsz, List.all_cons, List.all_nil, Bool.and_true, beq_self_eq_true, List.length_cons, List.length_nil, Nat.zero_add, srcv, Nat.le_refl, List.take_succ_cons, List.take_zero, and_self, if_true, Nat.reduceAdd, Nat.reduceLT, eq_self, h0, h3, hr, hi0, ↓r_any, x_lv el_hunk _ _ hi, hxi, f_hunk0, f_hunk1, f_hunk2, ↓d_strs, ↓d_int, l_strs, wrap64 ((i : Int) - 1) (by omega), wrap64 (d[i - 1].at_ + d[i - 1].less.length) (by omega), hc, wrap64 ((i : Int) + 1) (by omega)]
            refine hK (m - 1) _ _ _ (by omega) ⟨i + 1, by omega, ?_, ?_, fun j hj => ?_⟩
            · simp -dsimp only [↓SD, SP, ↓reduceIte, Nat.reduceEqDiff, ini, frz, rdAo, rd3o, rd2o, rdpo, rd1o, fnv, intv, VOp.dst, getRo, solEo, solo, solo1, allsz, List.all_cons, List.all_nil, Bool.and_true, beq_self_eq_true, List.length_cons, List.length_nil, Nat.zero_add, srcv, Nat.le_refl, List.take_succ_cons, List.take_zero, and_self, if_true, Nat.reduceAdd, Nat.reduceLT, eq_self, h0]
            · simp -dsimp only [↓SD, SP, ↓reduceIte, Nat.reduceEqDiff, ini, frz, rdAo, rd3o, rd2o, rdpo, rd1o, fnv, intv, VOp.dst, getRo, solEo, solo, solo1, allsz, List.all_cons, List.all_nil, Bool.and_true, beq_self_eq_true, List.length_cons, List.length_nil, Nat.zero_add, srcv, Nat.le_refl, List.take_succ_cons, List.take_zero, and_self, if_true, Nat.reduceAdd, Nat.reduceLT, eq_self, Int.natCast_add, Int.natCast_one]
            · rcases Nat.lt_or_ge j i with h' | h'
              · exact hp j h'
              · obtain rfl : j = i := by omega
                rw [hpk]; simp; omega
        · obtain rfl : i = 0 := by omega
          simp -dsimp only [↓SD, SP, ↓reduceIte, Nat.reduceEqDiff, ini, frz, rdAo, rd3o, rd2o, rdpo, rd1o, fnv, intv, VOp.dst, getRo, solEo, solo, solo1, allsz, List.all_cons, List.all_nil, Bool.and_true, beq_self_eq_true, List.length_cons, List.length_nil, Nat.zero_add, srcv, Nat.le_refl, List.take_succ_cons, List.take_zero, and_self, if_true, Nat.reduceAdd, Nat.reduceLT, eq_self, h0, h3, hr, hi0, ↓r_any, wrap64 (((0 : Nat) : Int) + 1) (by omega)]
          refine hK (m - 1) _ _ _ (by omega) ⟨1, by omega, ?_, ?_, fun j hj => ?_⟩
          · simp -dsimp only [↓SD, SP, ↓reduceIte, Nat.reduceEqDiff, ini, frz, rdAo, rd3o, rd2o, rdpo, rd1o, fnv, intv, VOp.dst, getRo, solEo, solo, solo1, allsz, List.all_cons, List.all_nil, Bool.and_true, beq_self_eq_true, List.length_cons, List.length_nil, Nat.zero_add, srcv, Nat.le_refl, List.take_succ_cons, List.take_zero, and_self, if_true, Nat.reduceAdd, Nat.reduceLT, eq_self, h0]
          · simp -dsimp only [↓SD, SP, ↓reduceIte, Nat.reduceEqDiff, ini, frz, rdAo, rd3o, rd2o, rdpo, rd1o, fnv, intv, VOp.dst, getRo, solEo, solo, solo1, allsz, List.all_cons, List.all_nil, Bool.and_true, beq_self_eq_true, List.length_cons, List.length_nil, Nat.zero_add, srcv, Nat.le_refl, List.take_succ_cons, List.take_zero, and_self, if_true, Nat.reduceAdd, Nat.reduceLT, eq_self]
            rfl
          · obtain rfl : j = 0 := by omega
            rw [hpk, hok]
            rfl
      · simp -dsimp only [↓SD, SP, ↓reduceIte, Nat.reduceEqDiff, ini, frz, rdAo, rd3o, rd2o, rdpo, rd1o, fnv, intv, VOp.dst, getRo, solEo, solo, solo1, allsz, List.all_cons, List.all_nil, Bool.and_true, beq_self_eq_true, List.length_cons, List.length_nil, Nat.zero_add, srcv, Nat.le_refl, List.take_succ_cons, List.take_zero, and_self, if_true, Nat.reduceAdd, Nat.reduceLT, eq_self, h0, h3, hr, ↓r_any]
        refine no (by rw [hpk]; simp [hOk]; omega) _ _ _ ?_
        simp -dsimp only [↓SD, SP, ↓reduceIte, Nat.reduceEqDiff, ini, frz, rdAo, rd3o, rd2o, rdpo, rd1o, fnv, intv, VOp.dst, getRo, solEo, solo, solo1, allsz, List.all_cons, List.all_nil, Bool.and_true, beq_self_eq_true, List.length_cons, List.length_nil, Nat.zero_add, srcv, Nat.le_refl, List.take_succ_cons, List.take_zero, and_self, if_true, Nat.reduceAdd, Nat.reduceLT, eq_self]
    · simp -dsimp only [↓SD, SP, ↓reduceIte, Nat.reduceEqDiff, ini, frz, rdAo, rd3o, rd2o, rdpo, rd1o, fnv, intv, VOp.dst, getRo, solEo, solo, solo1, allsz, List.all_cons, List.all_nil, Bool.and_true, beq_self_eq_true, List.length_cons, List.length_nil, Nat.zero_add, srcv, Nat.le_refl, List.take_succ_cons, List.take_zero, and_self, if_true, Nat.reduceAdd, Nat.reduceLT, eq_self, h0, h3, l_lv, Int.ofNat_lt, hi]
      exact hQ _ _ _ _ (.inl ⟨rfl, h0, patchOk_yes fun j hj => hp j (by omega)⟩)
end Go.AVM
