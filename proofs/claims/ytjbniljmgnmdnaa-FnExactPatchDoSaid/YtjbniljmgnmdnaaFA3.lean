import Derived.Test.YtjbniljmgnmdnaaFA2
set_option linter.unusedSimpArgs false
namespace Go.AVM
theorem okL_of {xs : List ByteArray} {k : Nat} (hk : k ≤ 1000000) {i : Int} (hi : 0 ≤ i) (h : i + xs.length + szs xs = k) : okL xs := by
  refine ⟨by omega, fun s hs => ?_⟩
  have : s.size ≤ szs xs := by
    unfold szs
    clear h
    induction xs with
    | nil => cases hs
    | cons x xs ih =>
      rw [List.map_cons, List.sum_cons]
      rcases List.mem_cons.1 hs with rfl | hs
      · omega
      · have := ih hs
        omega
  omega
theorem roomy_len (xs : List ByteArray) : (roomy xs).length = xs.length + rm xs.length := by simp [roomy]
/-- what a callee reads of a list with room behind it -/
theorem rd_roomy (H : Hp) (t : Option (Nat × Nat)) (xs : List ByteArray) : rd3o false H (.lsl t xs.length ((roomy xs).map .str)) = some (strs xs, []) := by
  simp [strs, rd3o, rd2o, rdpo, rd1o, roomy]
theorem rd_roomyT (H : Hp) (t : Option (Nat × Nat)) (xs : List ByteArray) : rd3o true H (.lsl t xs.length ((roomy xs).map .str)) = some (.lsl none xs.length ((roomy xs).map .str), []) := by
  simp [rd3o, rd2o, rdpo, rd1o]
theorem rd_emp (H : Hp) : rd3o false H .emp = some (strs [], []) := by
  simp [strs, rd3o, rd2o, rdpo, rd1o]
theorem s3 (xs : List ByteArray) (h : xs.length ≤ 9223372036854775807 ∧ ∀ s ∈ xs, s.size ≤ 9223372036854775807) :
    OK Go.Proofs.Try.prog 3 [strs xs] (fun _ _ r => r = .bool true) := by
  refine fn_ok k3 rfl ?_
  have h15 := s15 xs 1000000 (by omega) h
  have h17 := fun h b => s17 xs b h
  have h16 := s16 xs
  have h18 := s18 xs
  have h19 := fun hn => s19 xs.length (roomy xs) (roomy xs) hn (roomy_len xs) (roomy_len xs)
  generalize OK Go.Proofs.Try.prog = L at *
  intro lo
  simp -dsimp only [↓SD, SP, ↓reduceIte, Nat.reduceEqDiff, ini, frz, rdAo, rd3o, rd2o, rdpo, rd1o, fnv, intv, VOp.dst, getRo, solEo, solo, solo1, allsz, List.all_cons, List.all_nil, Bool.and_true, beq_self_eq_true, List.length_cons, List.length_nil, Nat.zero_add, srcv, Nat.le_refl, List.take_succ_cons, List.take_zero, and_self, if_true, Nat.reduceAdd, Nat.reduceLT, eq_self, c3, ↓rd_strs]
  refine call_rule h15 ?_
  rintro lo1 hi1 r g1 g2 ⟨i, rfl, hi⟩
  by_cases hneg : i < 0
  · simp -dsimp only [↓SD, SP, ↓reduceIte, Nat.reduceEqDiff, ini, frz, rdAo, rd3o, rd2o, rdpo, rd1o, fnv, intv, VOp.dst, getRo, solEo, solo, solo1, allsz, List.all_cons, List.all_nil, Bool.and_true, beq_self_eq_true, List.length_cons, List.length_nil, Nat.zero_add, srcv, Nat.le_refl, List.take_succ_cons, List.take_zero, and_self, if_true, Nat.reduceAdd, Nat.reduceLT, eq_self, hneg]
  · have ho : okL xs := okL_of (Nat.le_refl _) (by omega) (hi (by omega))
    simp -dsimp only [↓SD, SP, ↓reduceIte, Nat.reduceEqDiff, ini, frz, rdAo, rd3o, rd2o, rdpo, rd1o, fnv, intv, VOp.dst, getRo, solEo, solo, solo1, allsz, List.all_cons, List.all_nil, Bool.and_true, beq_self_eq_true, List.length_cons, List.length_nil, Nat.zero_add, srcv, Nat.le_refl, List.take_succ_cons, List.take_zero, and_self, if_true, Nat.reduceAdd, Nat.reduceLT, eq_self, hneg, ↓rd_strs]
    refine call_rule (h17 ho false) ?_
    rintro lo2 hi2 r g3 g4 hr
    rw [if_neg (by simp)] at hr
    obtain ⟨b1, -, -, rfl⟩ := hr
    simp -dsimp only [↓SD, SP, ↓reduceIte, Nat.reduceEqDiff, ini, frz, rdAo, rd3o, rd2o, rdpo, rd1o, fnv, intv, VOp.dst, getRo, solEo, solo, solo1, allsz, List.all_cons, List.all_nil, Bool.and_true, beq_self_eq_true, List.length_cons, List.length_nil, Nat.zero_add, srcv, Nat.le_refl, List.take_succ_cons, List.take_zero, and_self, if_true, Nat.reduceAdd, Nat.reduceLT, eq_self, ↓rd_roomy]
    refine call_rule (h16 ho) ?_
    rintro lo3 hi3 r g5 g6 rfl
    simp -dsimp only [↓SD, SP, ↓reduceIte, Nat.reduceEqDiff, ini, frz, rdAo, rd3o, rd2o, rdpo, rd1o, fnv, intv, VOp.dst, getRo, solEo, solo, solo1, allsz, List.all_cons, List.all_nil, Bool.and_true, beq_self_eq_true, List.length_cons, List.length_nil, Nat.zero_add, srcv, Nat.le_refl, List.take_succ_cons, List.take_zero, and_self, if_true, Nat.reduceAdd, Nat.reduceLT, eq_self, ↓rd_strs]
    refine call_rule (h17 ho false) ?_
    rintro lo4 hi4 r g7 g8 hr
    rw [if_neg (by simp)] at hr
    obtain ⟨b2, -, -, rfl⟩ := hr
    simp -dsimp only [↓SD, SP, ↓reduceIte, Nat.reduceEqDiff, ini, frz, rdAo, rd3o, rd2o, rdpo, rd1o, fnv, intv, VOp.dst, getRo, solEo, solo, solo1, allsz, List.all_cons, List.all_nil, Bool.and_true, beq_self_eq_true, List.length_cons, List.length_nil, Nat.zero_add, srcv, Nat.le_refl, List.take_succ_cons, List.take_zero, and_self, if_true, Nat.reduceAdd, Nat.reduceLT, eq_self, ↓rd_roomy]
    refine call_rule (h18 ho) ?_
    rintro lo5 hi5 r g9 g10 rfl
    simp -dsimp only [↓SD, SP, ↓reduceIte, Nat.reduceEqDiff, ini, frz, rdAo, rd3o, rd2o, rdpo, rd1o, fnv, intv, VOp.dst, getRo, solEo, solo, solo1, allsz, List.all_cons, List.all_nil, Bool.and_true, beq_self_eq_true, List.length_cons, List.length_nil, Nat.zero_add, srcv, Nat.le_refl, List.take_succ_cons, List.take_zero, and_self, if_true, Nat.reduceAdd, Nat.reduceLT, eq_self, ↓rd_strs]
    refine call_rule (h17 ho false) ?_
    rintro lo6 hi6 r g11 g12 hr
    rw [if_neg (by simp)] at hr
    obtain ⟨b3, -, -, rfl⟩ := hr
    simp -dsimp only [↓SD, SP, ↓reduceIte, Nat.reduceEqDiff, ini, frz, rdAo, rd3o, rd2o, rdpo, rd1o, fnv, intv, VOp.dst, getRo, solEo, solo, solo1, allsz, List.all_cons, List.all_nil, Bool.and_true, beq_self_eq_true, List.length_cons, List.length_nil, Nat.zero_add, srcv, Nat.le_refl, List.take_succ_cons, List.take_zero, and_self, if_true, Nat.reduceAdd, Nat.reduceLT, eq_self, ↓rd_roomyT]
    refine call_rule (h19 ho.1) ?_
    rintro lo7 hi7 r g13 g14 rfl
    simp -dsimp only [↓SD, SP, ↓reduceIte, Nat.reduceEqDiff, ini, frz, rdAo, rd3o, rd2o, rdpo, rd1o, fnv, intv, VOp.dst, getRo, solEo, solo, solo1, allsz, List.all_cons, List.all_nil, Bool.and_true, beq_self_eq_true, List.length_cons, List.length_nil, Nat.zero_add, srcv, Nat.le_refl, List.take_succ_cons, List.take_zero, and_self, if_true, Nat.reduceAdd, Nat.reduceLT, eq_self, ↓rd_strs]
    refine call_rule (h17 ho true) ?_
    rintro lo8 hi8 r g15 g16 hr
    by_cases he : xs = []
    · subst he
      rw [if_pos ⟨rfl, rfl⟩] at hr
      subst hr
      simp -dsimp only [↓SD, SP, ↓reduceIte, Nat.reduceEqDiff, ini, frz, rdAo, rd3o, rd2o, rdpo, rd1o, fnv, intv, VOp.dst, getRo, solEo, solo, solo1, allsz, List.all_cons, List.all_nil, Bool.and_true, beq_self_eq_true, List.length_cons, List.length_nil, Nat.zero_add, srcv, Nat.le_refl, List.take_succ_cons, List.take_zero, and_self, if_true, Nat.reduceAdd, Nat.reduceLT, eq_self, ↓rd_emp]
      refine call_rule (h18 ho) ?_
      rintro lo9 hi9 r g17 g18 rfl
      simp -dsimp only [↓SD, SP, ↓reduceIte, Nat.reduceEqDiff, ini, frz, rdAo, rd3o, rd2o, rdpo, rd1o, fnv, intv, VOp.dst, getRo, solEo, solo, solo1, allsz, List.all_cons, List.all_nil, Bool.and_true, beq_self_eq_true, List.length_cons, List.length_nil, Nat.zero_add, srcv, Nat.le_refl, List.take_succ_cons, List.take_zero, and_self, if_true, Nat.reduceAdd, Nat.reduceLT, eq_self]
    · rw [if_neg (by simp [he])] at hr
      obtain ⟨b4, -, -, rfl⟩ := hr
      simp -dsimp only [↓SD, SP, ↓reduceIte, Nat.reduceEqDiff, ini, frz, rdAo, rd3o, rd2o, rdpo, rd1o, fnv, intv, VOp.dst, getRo, solEo, solo, solo1, allsz, List.all_cons, List.all_nil, Bool.and_true, beq_self_eq_true, List.length_cons, List.length_nil, Nat.zero_add, srcv, Nat.le_refl, List.take_succ_cons, List.take_zero, and_self, if_true, Nat.reduceAdd, Nat.reduceLT, eq_self, ↓rd_roomy]
      refine call_rule (h18 ho) ?_
      rintro lo9 hi9 r g17 g18 rfl
      simp -dsimp only [↓SD, SP, ↓reduceIte, Nat.reduceEqDiff, ini, frz, rdAo, rd3o, rd2o, rdpo, rd1o, fnv, intv, VOp.dst, getRo, solEo, solo, solo1, allsz, List.all_cons, List.all_nil, Bool.and_true, beq_self_eq_true, List.length_cons, List.length_nil, Nat.zero_add, srcv, Nat.le_refl, List.take_succ_cons, List.take_zero, and_self, if_true, Nat.reduceAdd, Nat.reduceLT, eq_self]
end Go.AVM
