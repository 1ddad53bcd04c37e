/- PatchBack, both. -/
import Derived.Test.YtflhfmpkmbhaiaaFE3
import Derived.Test.YtflhfmpkmbhaiaaFC5
set_option linter.unusedSimpArgs false
set_option linter.unusedVariables false
namespace Go.AVM
/-- a patch taken back, from a place that has moved -/
def bk : Int → List HunkL → List HunkL
  | _, [] => []
  | m, h :: hs => ⟨h.at_ + m, h.more, h.less⟩ :: bk (m + h.more.length - h.less.length) hs
def backL (d : List HunkL) : List HunkL := if patchOk d = true then bk 0 d else []
theorem bk_len : ∀ (m : Int) (d : List HunkL), (bk m d).length = d.length
  | _, [] => rfl
  | m, h :: hs => by simp [bk, bk_len _ hs]
theorem bk_ok : ∀ (m : Int) (d : List HunkL), (∀ x ∈ d, hOk x = true) → ∀ x ∈ bk m d, x.less.length ≤ 10 ∧ x.more.length ≤ 10
  | _, [], _, x, hx => by simp [bk] at hx
  | m, h :: hs, hd, x, hx => by
    rcases List.mem_cons.1 hx with rfl | hx
    · have := hOk_at (hd h List.mem_cons_self)
      exact ⟨this.2.2.2, this.2.2.1⟩
    · exact bk_ok _ hs (fun y hy => hd y (List.mem_cons_of_mem _ hy)) x hx
theorem backL_ok (d : List HunkL) : (backL d).length ≤ 1000000 ∧ ∀ x ∈ backL d, x.less.length ≤ 1000000 ∧ x.more.length ≤ 1000000 := by
  unfold backL
  split
  · rename_i h
    obtain ⟨h1, h2⟩ := patchOk_all h
    refine ⟨by rw [bk_len]; omega, fun x hx => ?_⟩
    have := bk_ok 0 d h1 x hx
    omega
  · simp
theorem so_own {H : Hp} {d b s len : Nat} {k : Blk} (hk : H d = some k) (hb : k.b = b) (hs : k.s = s) (hl : len ≤ k.xs.length) : solo1 H (.own d b s len) = some (.lsl (some (b, s)) len k.xs, updH H d none) := by simp [solo1, hk, hb, hs, hl]
theorem fa_h0 (h : HunkL) : fldAv 0 (.lptr (hunkV h)) = some (.lptr (.int .i64 h.at_)) := by simp [fldAv, hunkV, strs, AV.isAgg, AV.sz]
theorem fa_h1 (h : HunkL) : fldAv 1 (.lptr (hunkV h)) = some (.lptr (strs h.less)) := by simp [fldAv, hunkV, strs, AV.isAgg, AV.sz]
theorem fa_h2 (h : HunkL) : fldAv 2 (.lptr (hunkV h)) = some (.lptr (strs h.more)) := by simp [fldAv, hunkV, strs, AV.isAgg, AV.sz]
theorem srcF_strs (xs : List ByteArray) : srcF (strs xs) = some (xs.map .str) := by simp [srcF, strs, List.take_of_length_le]
theorem sz_row (r : HRow) : r.v.sz = 3 := Eq.trans rfl rfl
theorem s_grows (h : HunkL) (h1 : h.less.length ≤ 1000000) (h2 : h.more.length ≤ 1000000) : OK Go.Proofs.Try.prog 37 [hunkV h] (fun _ _ r => r = .int .i64 ((h.more.length : Int) - h.less.length)) := by
  refine fn_ok k37 rfl ?_
  generalize OK Go.Proofs.Try.prog = L at *
  intro lo
  simp -dsimp only [↓SD, SP, ↓reduceIte, Nat.reduceEqDiff, ini, frz, rdAo, rd3o, rd2o, rdpo, rd1o, fnv, intv, VOp.dst, getRo, solEo, solo, solo1, allsz, List.all_cons, List.all_nil, Bool.and_true, beq_self_eq_true, List.length_cons, List.length_nil, Nat.zero_add, srcv, Nat.le_refl, List.take_succ_cons, List.take_zero, and_self, if_true, Nat.reduceAdd, Nat.reduceLT, eq_self, c37, sz_hunk]
  refine bal_mk fun b hb => ?_
  simp -dsimp only [↓SD, SP, ↓reduceIte, Nat.reduceEqDiff, ini, frz, rdAo, rd3o, rd2o, rdpo, rd1o, fnv, intv, VOp.dst, getRo, solEo, solo, solo1, allsz, List.all_cons, List.all_nil, Bool.and_true, beq_self_eq_true, List.length_cons, List.length_nil, Nat.zero_add, srcv, Nat.le_refl, List.take_succ_cons, List.take_zero, and_self, if_true, Nat.reduceAdd, Nat.reduceLT, eq_self, fldAv, ↓ldv_f, ↓ldv_n, ↓stv_f, ↓stv_a, fldv, setf, bldv, small, Bool.true_and, List.getElem?_cons_zero, List.getElem?_cons_succ, List.set_cons_zero, List.set_cons_succ, Bool.false_eq_true, if_false, true_and, and_true, reduceCtorEq, false_implies, implies_true, forall_const, ↓fv_hunk1, ↓fv_hunk2, l_strs, wrap64 ((h.more.length : Int) - h.less.length) (by omega)]
end Go.AVM
