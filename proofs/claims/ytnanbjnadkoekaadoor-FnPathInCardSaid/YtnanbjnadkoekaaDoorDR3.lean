/- The law of PathIn that is drawn. -/
import Derived.Test.YtnanbjnadkoekaaDoorMR
import Derived.Test.YtnanbjnadkoekaaDoorMP
set_option linter.unusedSimpArgs false
set_option linter.unusedVariables false
namespace Go.AVM
theorem pathIn_in {a b : ByteArray} (h : pathIn a b = true) : pathOk a = true ∧ pathOk b = true ∧ inB a b = true := by
  unfold pathIn at h
  simp only [Bool.and_eq_true] at h
  exact ⟨h.1, h.2.1, h.2.2⟩
theorem pathIn_self (a : ByteArray) : pathIn a a = false := by
  cases h : pathIn a a with
  | false => rfl
  | true => have := in_size (pathIn_in h).2.2; omega
theorem pathIn_not {a b : ByteArray} (h : pathIn a b = true) : pathIn b a = false := by
  cases h' : pathIn b a with
  | false => rfl
  | true =>
    have h1 := in_size (pathIn_in h).2.2
    have h2 := in_size (pathIn_in h').2.2
    omega
theorem pathIn_len {a b : ByteArray} (h : pathIn a b = true) : a.size + 1 < b.size := by
  obtain ⟨_, hb, hin⟩ := pathIn_in h
  obtain ⟨r, hr⟩ := (inB_iff _ _).1 hin
  have hl := congrArg List.length hr
  rw [pl_len] at hl
  simp only [List.length_append, pl_len, List.length_cons] at hl
  have : r ≠ [] := by
    rintro rfl
    unfold pathOk pieces at hb
    rw [show b.data.toList = pl a ++ 47 :: [] from hr, splitL_mid] at hb
    simp only [List.map_append, List.all_append, Bool.and_eq_true] at hb
    have h3 := hb.2.2
    simp [splitL, nmOk, mkB, ByteArray.size] at h3
  have : 0 < r.length := List.length_pos_iff.2 this
  omega
theorem pathIn_cut {a b : ByteArray} (h : pathIn a b = true) : b.extract 0 a.size = a := by
  have hs := in_size (pathIn_in h).2.2
  have := in_cut a b hs
  rw [(pathIn_in h).2.2, Bool.and_eq_true, decide_eq_true_eq] at this
  exact this.1
theorem pathIn_trans {a b c : ByteArray} (h1 : pathIn a b = true) (h2 : pathIn b c = true) : pathIn a c = true := by
  obtain ⟨p1, _, p3⟩ := pathIn_in h1
  obtain ⟨_, q2, q3⟩ := pathIn_in h2
  obtain ⟨r, hr⟩ := (inB_iff _ _).1 p3
  obtain ⟨s, hs⟩ := (inB_iff _ _).1 q3
  have : inB a c = true := (inB_iff _ _).2 ⟨r ++ 47 :: s, by rw [hs, hr]; simp⟩
  simp [pathIn, p1, q2, this]
theorem law_FnPathIn (x0 x1 : List UInt8) (hw : x0.length ≤ 9223372036854775807) (hw1 : x1.length ≤ 9223372036854775807) : OK Go.Proofs.Tryd.prog 5 [byL x0.length x0, byL x1.length x1] (fun _ _ r => r = .bool true) := by
  refine fn_ok k5 rfl ?_
  have hd := fun (x : List UInt8) h => s_DrawPathIn x h
  have hi := fun a b h h' => s_implPathIn a b h h'
  have hs := fun a b h h' => s_specPathIn a b h h'
  have hok := fun a h => s_implPathOk a h
  have hoks := fun a h => s_specPathOk a h
  generalize OK Go.Proofs.Tryd.prog = L at *
  intro lo
  by_cases hb : (1048576 : Int) < x0.length
  · simp -dsimp only [↓SD, SP, ↓reduceIte, Nat.reduceEqDiff, ini, frz, rdAo, rd3o, rd2o, rdpo, rd1o, fnv, intv, VOp.dst, getRo, solEo, solo, solo1, allsz, List.all_cons, List.all_nil, Bool.and_true, beq_self_eq_true, List.length_cons, List.length_nil, Nat.zero_add, srcv, Nat.le_refl, List.take_succ_cons, List.take_zero, and_self, if_true, Nat.reduceAdd, Nat.reduceLT, eq_self, c5, l_by, hb]
  by_cases hb1 : (1048576 : Int) < x1.length
  · simp -dsimp only [↓SD, SP, ↓reduceIte, Nat.reduceEqDiff, ini, frz, rdAo, rd3o, rd2o, rdpo, rd1o, fnv, intv, VOp.dst, getRo, solEo, solo, solo1, allsz, List.all_cons, List.all_nil, Bool.and_true, beq_self_eq_true, List.length_cons, List.length_nil, Nat.zero_add, srcv, Nat.le_refl, List.take_succ_cons, List.take_zero, and_self, if_true, Nat.reduceAdd, Nat.reduceLT, eq_self, c5, l_by, hb, hb1]
  simp -dsimp only [↓SD, SP, ↓reduceIte, Nat.reduceEqDiff, ini, frz, rdAo, rd3o, rd2o, rdpo, rd1o, fnv, intv, VOp.dst, getRo, solEo, solo, solo1, allsz, List.all_cons, List.all_nil, Bool.and_true, beq_self_eq_true, List.length_cons, List.length_nil, Nat.zero_add, srcv, Nat.le_refl, List.take_succ_cons, List.take_zero, and_self, if_true, Nat.reduceAdd, Nat.reduceLT, eq_self, c5, l_by, hb, hb1, ↓rd_by, ↓r_any]
  refine call_rule (hd x0 (by omega)) ?_
  rintro lo1 hi1 r - - ⟨a, b, rfl, ha, hb⟩
  simp -dsimp only [↓SD, SP, ↓reduceIte, Nat.reduceEqDiff, ini, frz, rdAo, rd3o, rd2o, rdpo, rd1o, fnv, intv, VOp.dst, getRo, solEo, solo, solo1, allsz, List.all_cons, List.all_nil, Bool.and_true, beq_self_eq_true, List.length_cons, List.length_nil, Nat.zero_add, srcv, Nat.le_refl, List.take_succ_cons, List.take_zero, and_self, if_true, Nat.reduceAdd, Nat.reduceLT, eq_self, ↓r_any, extv, List.getElem?_cons_zero, List.getElem?_cons_succ]
  refine call_rule (hi a b (by omega) (by omega)) ?_
  rintro lo2 hi2 r - - rfl
  simp -dsimp only [↓SD, SP, ↓reduceIte, Nat.reduceEqDiff, ini, frz, rdAo, rd3o, rd2o, rdpo, rd1o, fnv, intv, VOp.dst, getRo, solEo, solo, solo1, allsz, List.all_cons, List.all_nil, Bool.and_true, beq_self_eq_true, List.length_cons, List.length_nil, Nat.zero_add, srcv, Nat.le_refl, List.take_succ_cons, List.take_zero, and_self, if_true, Nat.reduceAdd, Nat.reduceLT, eq_self, ↓r_any]
  refine call_rule (hs a b (by omega) (by omega)) ?_
  rintro lo3 hi3 r - - rfl
  simp -dsimp only [↓SD, SP, ↓reduceIte, Nat.reduceEqDiff, ini, frz, rdAo, rd3o, rd2o, rdpo, rd1o, fnv, intv, VOp.dst, getRo, solEo, solo, solo1, allsz, List.all_cons, List.all_nil, Bool.and_true, beq_self_eq_true, List.length_cons, List.length_nil, Nat.zero_add, srcv, Nat.le_refl, List.take_succ_cons, List.take_zero, and_self, if_true, Nat.reduceAdd, Nat.reduceLT, eq_self, ↓r_any, m_beq, Bool.not_true]
  refine call_rule (hok a (by omega)) ?_
  rintro lo4 hi4 r - - rfl
  simp -dsimp only [↓SD, SP, ↓reduceIte, Nat.reduceEqDiff, ini, frz, rdAo, rd3o, rd2o, rdpo, rd1o, fnv, intv, VOp.dst, getRo, solEo, solo, solo1, allsz, List.all_cons, List.all_nil, Bool.and_true, beq_self_eq_true, List.length_cons, List.length_nil, Nat.zero_add, srcv, Nat.le_refl, List.take_succ_cons, List.take_zero, and_self, if_true, Nat.reduceAdd, Nat.reduceLT, eq_self, ↓r_any, m_beq, Bool.not_true]
  refine call_rule (hoks a (by omega)) ?_
  rintro lo5 hi5 r - - rfl
  simp -dsimp only [↓SD, SP, ↓reduceIte, Nat.reduceEqDiff, ini, frz, rdAo, rd3o, rd2o, rdpo, rd1o, fnv, intv, VOp.dst, getRo, solEo, solo, solo1, allsz, List.all_cons, List.all_nil, Bool.and_true, beq_self_eq_true, List.length_cons, List.length_nil, Nat.zero_add, srcv, Nat.le_refl, List.take_succ_cons, List.take_zero, and_self, if_true, Nat.reduceAdd, Nat.reduceLT, eq_self, ↓r_any, m_beq, Bool.not_true]
  refine call_rule (hok a (by omega)) ?_
  rintro lo6 hi6 r - - rfl
  have last : ∀ (p q : Bool), (p == p && q == q) = true := fun p q => by simp
  cases ea : pathOk a
  · simp -dsimp only [↓SD, SP, ↓reduceIte, Nat.reduceEqDiff, ini, frz, rdAo, rd3o, rd2o, rdpo, rd1o, fnv, intv, VOp.dst, getRo, solEo, solo, solo1, allsz, List.all_cons, List.all_nil, Bool.and_true, beq_self_eq_true, List.length_cons, List.length_nil, Nat.zero_add, srcv, Nat.le_refl, List.take_succ_cons, List.take_zero, and_self, if_true, Nat.reduceAdd, Nat.reduceLT, eq_self, ↓r_any, m_beq, Bool.not_true, Bool.not_false]
    refine call_rule (hs a b (by omega) (by omega)) ?_
    rintro lo7 hi7 r - - rfl
    simp -dsimp only [↓SD, SP, ↓reduceIte, Nat.reduceEqDiff, ini, frz, rdAo, rd3o, rd2o, rdpo, rd1o, fnv, intv, VOp.dst, getRo, solEo, solo, solo1, allsz, List.all_cons, List.all_nil, Bool.and_true, beq_self_eq_true, List.length_cons, List.length_nil, Nat.zero_add, srcv, Nat.le_refl, List.take_succ_cons, List.take_zero, and_self, if_true, Nat.reduceAdd, Nat.reduceLT, eq_self, ↓r_any, m_beq]
    refine call_rule (hok a (by omega)) ?_
    rintro lo8 hi8 r - - rfl
    simp -dsimp only [↓SD, SP, ↓reduceIte, Nat.reduceEqDiff, ini, frz, rdAo, rd3o, rd2o, rdpo, rd1o, fnv, intv, VOp.dst, getRo, solEo, solo, solo1, allsz, List.all_cons, List.all_nil, Bool.and_true, beq_self_eq_true, List.length_cons, List.length_nil, Nat.zero_add, srcv, Nat.le_refl, List.take_succ_cons, List.take_zero, and_self, if_true, Nat.reduceAdd, Nat.reduceLT, eq_self, ↓r_any, m_beq]
    refine call_rule (hoks a (by omega)) ?_
    rintro lo9 hi9 r - - rfl
    simp -dsimp only [↓SD, SP, ↓reduceIte, Nat.reduceEqDiff, ini, frz, rdAo, rd3o, rd2o, rdpo, rd1o, fnv, intv, VOp.dst, getRo, solEo, solo, solo1, allsz, List.all_cons, List.all_nil, Bool.and_true, beq_self_eq_true, List.length_cons, List.length_nil, Nat.zero_add, srcv, Nat.le_refl, List.take_succ_cons, List.take_zero, and_self, if_true, Nat.reduceAdd, Nat.reduceLT, eq_self, ↓r_any, m_beq]
  simp -dsimp only [↓SD, SP, ↓reduceIte, Nat.reduceEqDiff, ini, frz, rdAo, rd3o, rd2o, rdpo, rd1o, fnv, intv, VOp.dst, getRo, solEo, solo, solo1, allsz, List.all_cons, List.all_nil, Bool.and_true, beq_self_eq_true, List.length_cons, List.length_nil, Nat.zero_add, srcv, Nat.le_refl, List.take_succ_cons, List.take_zero, and_self, if_true, Nat.reduceAdd, Nat.reduceLT, eq_self, ↓r_any, m_beq, Bool.not_true, Bool.not_false]
  refine call_rule (hok b (by omega)) ?_
  rintro lo7 hi7 r - - rfl
  cases eb : pathOk b
  · simp -dsimp only [↓SD, SP, ↓reduceIte, Nat.reduceEqDiff, ini, frz, rdAo, rd3o, rd2o, rdpo, rd1o, fnv, intv, VOp.dst, getRo, solEo, solo, solo1, allsz, List.all_cons, List.all_nil, Bool.and_true, beq_self_eq_true, List.length_cons, List.length_nil, Nat.zero_add, srcv, Nat.le_refl, List.take_succ_cons, List.take_zero, and_self, if_true, Nat.reduceAdd, Nat.reduceLT, eq_self, ↓r_any, m_beq, Bool.not_true, Bool.not_false]
    refine call_rule (hs a b (by omega) (by omega)) ?_
    rintro lo7 hi7 r - - rfl
    simp -dsimp only [↓SD, SP, ↓reduceIte, Nat.reduceEqDiff, ini, frz, rdAo, rd3o, rd2o, rdpo, rd1o, fnv, intv, VOp.dst, getRo, solEo, solo, solo1, allsz, List.all_cons, List.all_nil, Bool.and_true, beq_self_eq_true, List.length_cons, List.length_nil, Nat.zero_add, srcv, Nat.le_refl, List.take_succ_cons, List.take_zero, and_self, if_true, Nat.reduceAdd, Nat.reduceLT, eq_self, ↓r_any, m_beq]
    refine call_rule (hok a (by omega)) ?_
    rintro lo8 hi8 r - - rfl
    simp -dsimp only [↓SD, SP, ↓reduceIte, Nat.reduceEqDiff, ini, frz, rdAo, rd3o, rd2o, rdpo, rd1o, fnv, intv, VOp.dst, getRo, solEo, solo, solo1, allsz, List.all_cons, List.all_nil, Bool.and_true, beq_self_eq_true, List.length_cons, List.length_nil, Nat.zero_add, srcv, Nat.le_refl, List.take_succ_cons, List.take_zero, and_self, if_true, Nat.reduceAdd, Nat.reduceLT, eq_self, ↓r_any, m_beq]
    refine call_rule (hoks a (by omega)) ?_
    rintro lo9 hi9 r - - rfl
    simp -dsimp only [↓SD, SP, ↓reduceIte, Nat.reduceEqDiff, ini, frz, rdAo, rd3o, rd2o, rdpo, rd1o, fnv, intv, VOp.dst, getRo, solEo, solo, solo1, allsz, List.all_cons, List.all_nil, Bool.and_true, beq_self_eq_true, List.length_cons, List.length_nil, Nat.zero_add, srcv, Nat.le_refl, List.take_succ_cons, List.take_zero, and_self, if_true, Nat.reduceAdd, Nat.reduceLT, eq_self, ↓r_any, m_beq]
  simp -dsimp only [↓SD, SP, ↓reduceIte, Nat.reduceEqDiff, ini, frz, rdAo, rd3o, rd2o, rdpo, rd1o, fnv, intv, VOp.dst, getRo, solEo, solo, solo1, allsz, List.all_cons, List.all_nil, Bool.and_true, beq_self_eq_true, List.length_cons, List.length_nil, Nat.zero_add, srcv, Nat.le_refl, List.take_succ_cons, List.take_zero, and_self, if_true, Nat.reduceAdd, Nat.reduceLT, eq_self, ↓r_any, m_beq, Bool.not_true, Bool.not_false, ↓rd_by]
  refine call_rule (hd x1 (by omega)) ?_
  rintro lo8 hi8 r - - ⟨a', c, rfl, ha', hc⟩
  simp -dsimp only [↓SD, SP, ↓reduceIte, Nat.reduceEqDiff, ini, frz, rdAo, rd3o, rd2o, rdpo, rd1o, fnv, intv, VOp.dst, getRo, solEo, solo, solo1, allsz, List.all_cons, List.all_nil, Bool.and_true, beq_self_eq_true, List.length_cons, List.length_nil, Nat.zero_add, srcv, Nat.le_refl, List.take_succ_cons, List.take_zero, and_self, if_true, Nat.reduceAdd, Nat.reduceLT, eq_self, ↓r_any, extv, List.getElem?_cons_zero, List.getElem?_cons_succ]
  refine call_rule (hi a a (by omega) (by omega)) ?_
  rintro lo9 hi9 r - - rfl
  cases e : pathIn a b
  · simp -dsimp only [↓SD, SP, ↓reduceIte, Nat.reduceEqDiff, ini, frz, rdAo, rd3o, rd2o, rdpo, rd1o, fnv, intv, VOp.dst, getRo, solEo, solo, solo1, allsz, List.all_cons, List.all_nil, Bool.and_true, beq_self_eq_true, List.length_cons, List.length_nil, Nat.zero_add, srcv, Nat.le_refl, List.take_succ_cons, List.take_zero, and_self, if_true, Nat.reduceAdd, Nat.reduceLT, eq_self, pathIn_self, ↓r_any, e, Bool.not_true, Bool.not_false]
  · have f1 := pathIn_len e
    have f2 := pathIn_cut e
    have f3 := pathIn_not e
    have x1 : ∀ H : Hp, slcv H 0 (.str b) none (some (.int .i64 a.size)) = some (.str a) := fun H => by
      simp only [slcv, Int.toNat_natCast, f2]
      simp
      omega
    simp -dsimp only [↓SD, SP, ↓reduceIte, Nat.reduceEqDiff, ini, frz, rdAo, rd3o, rd2o, rdpo, rd1o, fnv, intv, VOp.dst, getRo, solEo, solo, solo1, allsz, List.all_cons, List.all_nil, Bool.and_true, beq_self_eq_true, List.length_cons, List.length_nil, Nat.zero_add, srcv, Nat.le_refl, List.take_succ_cons, List.take_zero, and_self, if_true, Nat.reduceAdd, Nat.reduceLT, eq_self, pathIn_self, ↓r_any, e, Bool.not_true, Bool.not_false, wrap64 ((a.size : Int) + 1) (by omega), show (a.size : Int) + 1 < b.size by omega, x1]
    refine call_rule (hi b a (by omega) (by omega)) ?_
    rintro lo10 hi10 r - - rfl
    simp -dsimp only [↓SD, SP, ↓reduceIte, Nat.reduceEqDiff, ini, frz, rdAo, rd3o, rd2o, rdpo, rd1o, fnv, intv, VOp.dst, getRo, solEo, solo, solo1, allsz, List.all_cons, List.all_nil, Bool.and_true, beq_self_eq_true, List.length_cons, List.length_nil, Nat.zero_add, srcv, Nat.le_refl, List.take_succ_cons, List.take_zero, and_self, if_true, Nat.reduceAdd, Nat.reduceLT, eq_self, f3, ↓r_any, e, Bool.not_true, Bool.not_false]
    refine call_rule (hi b c (by omega) (by omega)) ?_
    rintro lo11 hi11 r - - rfl
    cases e2 : pathIn b c
    · simp -dsimp only [↓SD, SP, ↓reduceIte, Nat.reduceEqDiff, ini, frz, rdAo, rd3o, rd2o, rdpo, rd1o, fnv, intv, VOp.dst, getRo, solEo, solo, solo1, allsz, List.all_cons, List.all_nil, Bool.and_true, beq_self_eq_true, List.length_cons, List.length_nil, Nat.zero_add, srcv, Nat.le_refl, List.take_succ_cons, List.take_zero, and_self, if_true, Nat.reduceAdd, Nat.reduceLT, eq_self, ↓r_any, Bool.not_true, Bool.not_false]
    · simp -dsimp only [↓SD, SP, ↓reduceIte, Nat.reduceEqDiff, ini, frz, rdAo, rd3o, rd2o, rdpo, rd1o, fnv, intv, VOp.dst, getRo, solEo, solo, solo1, allsz, List.all_cons, List.all_nil, Bool.and_true, beq_self_eq_true, List.length_cons, List.length_nil, Nat.zero_add, srcv, Nat.le_refl, List.take_succ_cons, List.take_zero, and_self, if_true, Nat.reduceAdd, Nat.reduceLT, eq_self, ↓r_any, Bool.not_true, Bool.not_false]
      refine call_rule (hi a c (by omega) (by omega)) ?_
      rintro lo12 hi12 r - - rfl
      simp -dsimp only [↓SD, SP, ↓reduceIte, Nat.reduceEqDiff, ini, frz, rdAo, rd3o, rd2o, rdpo, rd1o, fnv, intv, VOp.dst, getRo, solEo, solo, solo1, allsz, List.all_cons, List.all_nil, Bool.and_true, beq_self_eq_true, List.length_cons, List.length_nil, Nat.zero_add, srcv, Nat.le_refl, List.take_succ_cons, List.take_zero, and_self, if_true, Nat.reduceAdd, Nat.reduceLT, eq_self, ↓r_any, pathIn_trans e e2]
end Go.AVM
