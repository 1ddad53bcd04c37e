/- PatchOver, both. -/
import Derived.Test.YtflhfmpkmbhaiaaFP2
import Derived.Test.YtflhfmpkmbhaiaaFE8
set_option linter.unusedSimpArgs false
set_option linter.unusedVariables false
namespace Go.AVM
theorem textOk_okL {xs : List ByteArray} (h : textOk xs = true) : okL xs := ⟨by have := textOk_len h; omega, textOk_sz h⟩
theorem okL_nil : okL [] := ⟨by simp, by simp⟩
theorem doAt_ok {t : List ByteArray} : ∀ {d : List HunkL} {q : Nat} {out x : List ByteArray}, doAt t q d out = some x → textOk x = true := by
  intro d
  induction d with
  | nil =>
    intro q out x h
    simp only [doAt] at h
    split at h
    · rename_i h'
      obtain rfl := Option.some.inj h
      exact h'
    · cases h
  | cons e hs ih =>
    intro q out x h
    simp only [doAt] at h
    split at h
    · exact ih h
    · cases h
theorem patchDo_ok {t : List ByteArray} {d : List HunkL} {x : List ByteArray} (h : patchDo t d = some x) : textOk x = true ∧ textOk t = true := by
  unfold patchDo at h
  split at h
  · rename_i h'
    exact ⟨doAt_ok h, h'.1⟩
  · cases h
theorem patchDo_okL (t : List ByteArray) (d : List HunkL) : okL ((patchDo t d).getD []) := by
  cases h : patchDo t d with
  | none => exact okL_nil
  | some x => exact textOk_okL (patchDo_ok h).1
def patchOver (t : List ByteArray) (a b : List HunkL) : Option (List HunkL) := (patchDo t a).bind fun x => (patchDo x b).map fun y => diffL t y
theorem diffL_ok {a b : List ByteArray} (h1 : textOk a = true) (h2 : textOk b = true) : (diffL a b).length ≤ 1000000 ∧ ∀ x ∈ diffL a b, x.less.length ≤ 1000000 ∧ x.more.length ≤ 1000000 := by
  have := diffOf_ok a b
  simpa [diffOf, h1, h2] using this
theorem patchOver_ok (t : List ByteArray) (a b : List HunkL) : ((patchOver t a b).getD []).length ≤ 1000000 ∧ ∀ x ∈ (patchOver t a b).getD [], x.less.length ≤ 1000000 ∧ x.more.length ≤ 1000000 := by
  unfold patchOver
  cases h : patchDo t a with
  | none => simp
  | some x =>
    simp only [Option.bind_some]
    cases h2 : patchDo x b with
    | none => simp
    | some y => simpa using diffL_ok (patchDo_ok h).2 (patchDo_ok h2).1
def ROv (lo hi : Nat) (o : Option (List HunkL)) (r : AV) : Prop := ∃ x, r = .tup [x, .bool o.isSome] ∧ RHs lo hi (o.getD []) x
theorem s_specPatchOver (t : List ByteArray) (a b : List HunkL) (hot : okL t) (hoa : okHs a) (hob : okHs b) : OK Go.Proofs.Try.prog 7 [strs t, hunksV a, hunksV b] (fun lo hi r => ROv lo hi (patchOver t a b) r) := by
  refine fn_ok k7 rfl ?_
  have hdo := fun t d h1 h2 => s_specPatchDo t d h1 h2
  have hdf := fun a b h1 h2 => s_l1Of a b h1 h2
  intro lo
  simp -dsimp only [↓SD, SP, ↓reduceIte, Nat.reduceEqDiff, ini, frz, rdAo, rd3o, rd2o, rdpo, rd1o, fnv, intv, VOp.dst, getRo, solEo, solo, solo1, allsz, List.all_cons, List.all_nil, Bool.and_true, beq_self_eq_true, List.length_cons, List.length_nil, Nat.zero_add, srcv, Nat.le_refl, List.take_succ_cons, List.take_zero, and_self, if_true, Nat.reduceAdd, Nat.reduceLT, eq_self, c7, ↓rd_strs, ↓rd_lv, ↓r_any]
  refine call_rule (hdo t a hot hoa) ?_
  rintro lo1 hi1 r p1 p2 ⟨x, rfl, hx⟩
  obtain ⟨q1, e1, u1⟩ := rd_wk (fl := false) hx.wk (strs_pl _) (fun _ => none)
  simp -dsimp only [↓SD, SP, ↓reduceIte, Nat.reduceEqDiff, ini, frz, rdAo, rd3o, rd2o, rdpo, rd1o, fnv, intv, VOp.dst, getRo, solEo, solo, solo1, allsz, List.all_cons, List.all_nil, Bool.and_true, beq_self_eq_true, List.length_cons, List.length_nil, Nat.zero_add, srcv, Nat.le_refl, List.take_succ_cons, List.take_zero, and_self, if_true, Nat.reduceAdd, Nat.reduceLT, eq_self, ↓r_any, extv, List.getElem?_cons_zero, List.getElem?_cons_succ, ↓e1, ↓rd_lv]
  refine call_rule (OK.wk (hdo ((patchDo t a).getD []) b (patchDo_okL t a) hob) (.cons u1 (.cons (.refl _) .nil))) ?_
  rintro lo2 hi2 r p3 p4 ⟨y, rfl, hy⟩
  cases h1 : patchDo t a with
  | none =>
    simp -dsimp only [↓SD, SP, ↓reduceIte, Nat.reduceEqDiff, ini, frz, rdAo, rd3o, rd2o, rdpo, rd1o, fnv, intv, VOp.dst, getRo, solEo, solo, solo1, allsz, List.all_cons, List.all_nil, Bool.and_true, beq_self_eq_true, List.length_cons, List.length_nil, Nat.zero_add, srcv, Nat.le_refl, List.take_succ_cons, List.take_zero, and_self, if_true, Nat.reduceAdd, Nat.reduceLT, eq_self, h1, Option.isSome_none, ↓r_any, extv, List.getElem?_cons_zero, List.getElem?_cons_succ, mkR_two]
    exact ⟨.emp, by simp [patchOver, h1], .inl ⟨by simp [patchOver, h1], rfl⟩⟩
  | some x' =>
    rw [h1] at hy
    simp only [Option.getD_some] at hy
    cases h2 : patchDo x' b with
    | none =>
      simp -dsimp only [↓SD, SP, ↓reduceIte, Nat.reduceEqDiff, ini, frz, rdAo, rd3o, rd2o, rdpo, rd1o, fnv, intv, VOp.dst, getRo, solEo, solo, solo1, allsz, List.all_cons, List.all_nil, Bool.and_true, beq_self_eq_true, List.length_cons, List.length_nil, Nat.zero_add, srcv, Nat.le_refl, List.take_succ_cons, List.take_zero, and_self, if_true, Nat.reduceAdd, Nat.reduceLT, eq_self, h1, h2, Option.isSome_none, Option.isSome_some, Option.getD_some, ↓r_any, extv, List.getElem?_cons_zero, List.getElem?_cons_succ, mkR_two]
      exact ⟨.emp, by simp [patchOver, h1, h2], .inl ⟨by simp [patchOver, h1, h2], rfl⟩⟩
    | some y' =>
      rw [h2] at hy
      simp only [Option.getD_some] at hy
      have l1 := textOk_len (patchDo_ok h1).2
      have l2 := textOk_len (patchDo_ok h2).1
      obtain ⟨q2, e2, u2⟩ := rd_wk (fl := false) hy.wk (strs_pl _) (fun _ => none)
      simp -dsimp only [↓SD, SP, ↓reduceIte, Nat.reduceEqDiff, ini, frz, rdAo, rd3o, rd2o, rdpo, rd1o, fnv, intv, VOp.dst, getRo, solEo, solo, solo1, allsz, List.all_cons, List.all_nil, Bool.and_true, beq_self_eq_true, List.length_cons, List.length_nil, Nat.zero_add, srcv, Nat.le_refl, List.take_succ_cons, List.take_zero, and_self, if_true, Nat.reduceAdd, Nat.reduceLT, eq_self, h1, h2, Option.isSome_none, Option.isSome_some, Option.getD_some, ↓r_any, extv, List.getElem?_cons_zero, List.getElem?_cons_succ, ↓e2, ↓rd_strs]
      refine call_rule (OK.wk (hdf t y' (by omega) (by omega)) (.cons (.refl _) (.cons u2 .nil))) ?_
      rintro lo3 hi3 r p5 p6 hr
      have hs := fun H => sol_wk (fl := false) hr.wk (hunks_pl _) H
      simp -dsimp only [↓SD, SP, ↓reduceIte, Nat.reduceEqDiff, ini, frz, rdAo, rd3o, rd2o, rdpo, rd1o, fnv, intv, VOp.dst, getRo, solEo, solo, solo1, allsz, List.all_cons, List.all_nil, Bool.and_true, beq_self_eq_true, List.length_cons, List.length_nil, Nat.zero_add, srcv, Nat.le_refl, List.take_succ_cons, List.take_zero, and_self, if_true, Nat.reduceAdd, Nat.reduceLT, eq_self, ↓r_any, ↓hs, mkR_two]
      exact ⟨r, by simp [patchOver, h1, h2], by simpa [patchOver, h1, h2] using hr.mono (by omega) (Nat.le_refl _)⟩
theorem s_implPatchOver (t : List ByteArray) (a b : List HunkL) (hot : okL t) (hoa : okHs a) (hob : okHs b) : OK Go.Proofs.Try.prog 10 [strs t, hunksV a, hunksV b] (fun lo hi r => ROv lo hi (patchOver t a b) r) := by
  refine fn_ok k10 rfl ?_
  have hdo := fun t d h1 h2 => s_implPatchDo t d h1 h2
  have hdf := fun a b h1 h2 => s_diff a b h1 h2
  intro lo
  simp -dsimp only [↓SD, SP, ↓reduceIte, Nat.reduceEqDiff, ini, frz, rdAo, rd3o, rd2o, rdpo, rd1o, fnv, intv, VOp.dst, getRo, solEo, solo, solo1, allsz, List.all_cons, List.all_nil, Bool.and_true, beq_self_eq_true, List.length_cons, List.length_nil, Nat.zero_add, srcv, Nat.le_refl, List.take_succ_cons, List.take_zero, and_self, if_true, Nat.reduceAdd, Nat.reduceLT, eq_self, c10, ↓rd_strs, ↓rd_lv, ↓r_any]
  refine call_rule (hdo t a hot hoa) ?_
  rintro lo1 hi1 r p1 p2 ⟨x, rfl, hx⟩
  cases h1 : patchDo t a with
  | none =>
    simp -dsimp only [↓SD, SP, ↓reduceIte, Nat.reduceEqDiff, ini, frz, rdAo, rd3o, rd2o, rdpo, rd1o, fnv, intv, VOp.dst, getRo, solEo, solo, solo1, allsz, List.all_cons, List.all_nil, Bool.and_true, beq_self_eq_true, List.length_cons, List.length_nil, Nat.zero_add, srcv, Nat.le_refl, List.take_succ_cons, List.take_zero, and_self, if_true, Nat.reduceAdd, Nat.reduceLT, eq_self, h1, Option.isSome_none, ↓r_any, extv, List.getElem?_cons_zero, List.getElem?_cons_succ, mkR_two]
    exact ⟨.emp, by simp [patchOver, h1], .inl ⟨by simp [patchOver, h1], rfl⟩⟩
  | some x' =>
    rw [h1] at hx
    simp only [Option.getD_some] at hx
    obtain ⟨q1, e1, u1⟩ := rd_wk (fl := false) hx.wk (strs_pl _) (fun _ => none)
    simp -dsimp only [↓SD, SP, ↓reduceIte, Nat.reduceEqDiff, ini, frz, rdAo, rd3o, rd2o, rdpo, rd1o, fnv, intv, VOp.dst, getRo, solEo, solo, solo1, allsz, List.all_cons, List.all_nil, Bool.and_true, beq_self_eq_true, List.length_cons, List.length_nil, Nat.zero_add, srcv, Nat.le_refl, List.take_succ_cons, List.take_zero, and_self, if_true, Nat.reduceAdd, Nat.reduceLT, eq_self, h1, Option.isSome_some, ↓r_any, extv, List.getElem?_cons_zero, List.getElem?_cons_succ, ↓e1, ↓rd_lv]
    refine call_rule (OK.wk (hdo x' b (textOk_okL (patchDo_ok h1).1) hob) (.cons u1 (.cons (.refl _) .nil))) ?_
    rintro lo2 hi2 r p3 p4 ⟨y, rfl, hy⟩
    cases h2 : patchDo x' b with
    | none =>
      simp -dsimp only [↓SD, SP, ↓reduceIte, Nat.reduceEqDiff, ini, frz, rdAo, rd3o, rd2o, rdpo, rd1o, fnv, intv, VOp.dst, getRo, solEo, solo, solo1, allsz, List.all_cons, List.all_nil, Bool.and_true, beq_self_eq_true, List.length_cons, List.length_nil, Nat.zero_add, srcv, Nat.le_refl, List.take_succ_cons, List.take_zero, and_self, if_true, Nat.reduceAdd, Nat.reduceLT, eq_self, h2, Option.isSome_none, ↓r_any, extv, List.getElem?_cons_zero, List.getElem?_cons_succ, mkR_two]
      exact ⟨.emp, by simp [patchOver, h1, h2], .inl ⟨by simp [patchOver, h1, h2], rfl⟩⟩
    | some y' =>
      rw [h2] at hy
      simp only [Option.getD_some] at hy
      have l1 := textOk_len (patchDo_ok h1).2
      have l2 := textOk_len (patchDo_ok h2).1
      obtain ⟨q2, e2, u2⟩ := rd_wk (fl := false) hy.wk (strs_pl _) (fun _ => none)
      simp -dsimp only [↓SD, SP, ↓reduceIte, Nat.reduceEqDiff, ini, frz, rdAo, rd3o, rd2o, rdpo, rd1o, fnv, intv, VOp.dst, getRo, solEo, solo, solo1, allsz, List.all_cons, List.all_nil, Bool.and_true, beq_self_eq_true, List.length_cons, List.length_nil, Nat.zero_add, srcv, Nat.le_refl, List.take_succ_cons, List.take_zero, and_self, if_true, Nat.reduceAdd, Nat.reduceLT, eq_self, h2, Option.isSome_some, ↓r_any, extv, List.getElem?_cons_zero, List.getElem?_cons_succ, ↓e2, ↓rd_strs]
      refine call_rule (OK.wk (hdf t y' (by omega) (by omega)) (.cons (.refl _) (.cons u2 .nil))) ?_
      rintro lo3 hi3 r p5 p6 hr
      have hs := fun H => sol_wk (fl := false) hr.wk (hunks_pl _) H
      simp -dsimp only [↓SD, SP, ↓reduceIte, Nat.reduceEqDiff, ini, frz, rdAo, rd3o, rd2o, rdpo, rd1o, fnv, intv, VOp.dst, getRo, solEo, solo, solo1, allsz, List.all_cons, List.all_nil, Bool.and_true, beq_self_eq_true, List.length_cons, List.length_nil, Nat.zero_add, srcv, Nat.le_refl, List.take_succ_cons, List.take_zero, and_self, if_true, Nat.reduceAdd, Nat.reduceLT, eq_self, ↓r_any, ↓hs, mkR_two]
      exact ⟨r, by simp [patchOver, h1, h2], by simpa [patchOver, h1, h2] using hr.mono (by omega) (Nat.le_refl _)⟩
theorem n_specPatchOver (t : List ByteArray) (a b : List HunkL) (ht : okL t) (ha : okHs a) (hb : okHs b) : OK Go.Proofs.Try.prog 7 [strs t, hunksV a, hunksV b] (fun lo hi r => New2 (hunksV ((patchOver t a b).getD [])) (patchOver t a b).isSome lo hi r) :=
  (s_specPatchOver t a b ht ha hb).weak fun _ _ _ ⟨x, h1, h2⟩ => ⟨x, h1, h2.new (patchOver_ok t a b).1 (patchOver_ok t a b).2⟩
theorem n_implPatchOver (t : List ByteArray) (a b : List HunkL) (ht : okL t) (ha : okHs a) (hb : okHs b) : OK Go.Proofs.Try.prog 10 [strs t, hunksV a, hunksV b] (fun lo hi r => ResR2 Go.Proofs.Try.prog 15 16 (hunksV ((patchOver t a b).getD [])) (patchOver t a b).isSome lo hi r) :=
  (s_implPatchOver t a b ht ha hb).weak fun _ _ _ ⟨x, h1, h2⟩ => ⟨x, h1, h2.res (patchOver_ok t a b).1 (patchOver_ok t a b).2⟩
end Go.AVM
