/- PatchOk. -/
import Derived.Test.YtnanbjnadkoekaaDoorFC1
set_option linter.unusedSimpArgs false
set_option linter.unusedVariables false
namespace Go.AVM
theorem f_hunk0 (h : HunkL) : fldAv 0 (.lptr (hunkV h)) = some (.lptr (.int .i64 h.at_)) := by simp [fldAv, hunkV, AV.isAgg, AV.sz]
theorem f_hunk1 (h : HunkL) : fldAv 1 (.lptr (hunkV h)) = some (.lptr (strs h.less)) := by simp [fldAv, hunkV, strs, AV.isAgg, AV.sz]
theorem f_hunk2 (h : HunkL) : fldAv 2 (.lptr (hunkV h)) = some (.lptr (strs h.more)) := by simp [fldAv, hunkV, strs, AV.isAgg, AV.sz]
def hOk (h : HunkL) : Bool := decide (0 ≤ h.at_ ∧ h.at_ ≤ 10) && textOk h.less && textOk h.more && !decide (h.less.length + h.more.length = 0)
def h0L : HunkL := ⟨0, [], []⟩
def pk (d : List HunkL) (i : Nat) : Bool := hOk (d.getD i h0L) && (decide (i = 0) || decide ((d.getD (i - 1) h0L).at_ + (d.getD (i - 1) h0L).less.length < (d.getD i h0L).at_))
def patchOk (d : List HunkL) : Bool := (List.range d.length).all (pk d) && decide (d.length ≤ 8)
theorem patchOk_no {d : List HunkL} {i : Nat} (hi : i < d.length) (h : pk d i = false) : patchOk d = false := by
  have : (List.range d.length).all (pk d) = false := by
    rw [Bool.eq_false_iff]
    intro h'
    have := List.all_eq_true.1 h' i (List.mem_range.2 hi)
    rw [h] at this
    cases this
  simp [patchOk, this]
theorem patchOk_yes {d : List HunkL} (h : ∀ j, j < d.length → pk d j = true) : patchOk d = decide (d.length ≤ 8) := by
  have : (List.range d.length).all (pk d) = true := List.all_eq_true.2 fun j hj => h j (List.mem_range.1 hj)
  simp [patchOk, this]
theorem pk_at {d : List HunkL} {i : Nat} (hi : i < d.length) : pk d i = (hOk d[i] && (decide (i = 0) || decide ((d.getD (i - 1) h0L).at_ + (d.getD (i - 1) h0L).less.length < d[i].at_))) := by
  have : d.getD i h0L = d[i] := by simp [List.getD_eq_getElem?_getD, hi]
  simp only [pk, this]
theorem s_l1In (n a b : Int) : OK Go.Proofs.Tryd.prog 99 [.int .i64 n, .int .i64 a, .int .i64 b] (fun _ _ r => r = .bool (decide (a ≤ n ∧ n ≤ b))) := by
  refine fn_ok k99 rfl ?_
  generalize OK Go.Proofs.Tryd.prog = L
  intro lo
  by_cases h1 : a ≤ n
  · simp -dsimp only [↓SD, SP, ↓reduceIte, Nat.reduceEqDiff, ini, frz, rdAo, rd3o, rd2o, rdpo, rd1o, fnv, intv, VOp.dst, getRo, solEo, solo, solo1, allsz, List.all_cons, List.all_nil, Bool.and_true, beq_self_eq_true, List.length_cons, List.length_nil, Nat.zero_add, srcv, Nat.le_refl, List.take_succ_cons, List.take_zero, and_self, if_true, Nat.reduceAdd, Nat.reduceLT, eq_self, c99, h1]
    simp
  · simp -dsimp only [↓SD, SP, ↓reduceIte, Nat.reduceEqDiff, ini, frz, rdAo, rd3o, rd2o, rdpo, rd1o, fnv, intv, VOp.dst, getRo, solEo, solo, solo1, allsz, List.all_cons, List.all_nil, Bool.and_true, beq_self_eq_true, List.length_cons, List.length_nil, Nat.zero_add, srcv, Nat.le_refl, List.take_succ_cons, List.take_zero, and_self, if_true, Nat.reduceAdd, Nat.reduceLT, eq_self, c99, h1]
    simp
theorem s_within (n a b : Int) : OK Go.Proofs.Tryd.prog 83 [.int .i64 n, .int .i64 a, .int .i64 b] (fun _ _ r => r = .bool (decide (a ≤ n ∧ n ≤ b))) := by
  refine fn_ok k83 rfl ?_
  generalize OK Go.Proofs.Tryd.prog = L
  intro lo
  by_cases h1 : a ≤ n
  · simp -dsimp only [↓SD, SP, ↓reduceIte, Nat.reduceEqDiff, ini, frz, rdAo, rd3o, rd2o, rdpo, rd1o, fnv, intv, VOp.dst, getRo, solEo, solo, solo1, allsz, List.all_cons, List.all_nil, Bool.and_true, beq_self_eq_true, List.length_cons, List.length_nil, Nat.zero_add, srcv, Nat.le_refl, List.take_succ_cons, List.take_zero, and_self, if_true, Nat.reduceAdd, Nat.reduceLT, eq_self, c83, h1]
    simp
  · simp -dsimp only [↓SD, SP, ↓reduceIte, Nat.reduceEqDiff, ini, frz, rdAo, rd3o, rd2o, rdpo, rd1o, fnv, intv, VOp.dst, getRo, solEo, solo, solo1, allsz, List.all_cons, List.all_nil, Bool.and_true, beq_self_eq_true, List.length_cons, List.length_nil, Nat.zero_add, srcv, Nat.le_refl, List.take_succ_cons, List.take_zero, and_self, if_true, Nat.reduceAdd, Nat.reduceLT, eq_self, c83, h1]
    simp
theorem hOk_at {h : HunkL} (hh : hOk h = true) : 0 ≤ h.at_ ∧ h.at_ ≤ 10 ∧ h.less.length ≤ 10 ∧ h.more.length ≤ 10 := by
  simp [hOk] at hh
  exact ⟨hh.1.1.1.1, hh.1.1.1.2, textOk_len hh.1.1.2, textOk_len hh.1.2⟩
end Go.AVM
