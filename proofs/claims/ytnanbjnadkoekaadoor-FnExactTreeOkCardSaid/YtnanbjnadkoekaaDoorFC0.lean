/- Kinds of arguments, told alike: for the laws. -/
import Derived.Test.YtnanbjnadkoekaaDoorFC1
set_option linter.unusedSimpArgs false
set_option linter.unusedVariables false
namespace Go.AVM
/-- what toX gives, for whichever X -/
def ToR (plain full : AV) (b : Bool) (lo hi : Nat) (r : AV) : Prop := Wk r plain ∧ (b = false → Wk r full) ∧ Tin lo hi (tags r)
def SzR (ok : Prop) (k : Nat) (r : AV) : Prop := ∃ i : Int, r = .int .i64 i ∧ (0 ≤ i → ok ∧ ∃ k' : Nat, i = k' ∧ k' ≤ k)
abbrev strs_wf := wfS
theorem strs_sz (xs : List ByteArray) (k : Nat) (hk : k ≤ 1000000) (hw : wfS xs) : OK Go.Proofs.Tryd.prog 69 [strs xs, .int .i64 k] (fun _ _ r => SzR (okL xs) k r) := s15' xs k hk hw
theorem strs_to (xs : List ByteArray) (b : Bool) (ho : okL xs) : OK Go.Proofs.Tryd.prog 71 [strs xs, .bool b] (fun lo hi r => ToR (strs xs) (strsF xs) b lo hi r) :=
  (s_toStringS xs b ho).weak fun lo hi r ⟨q, q'⟩ => ⟨q.wk, fun hb => by obtain ⟨g, _, _, rfl⟩ := q' hb; exact Wk.strip _ _ _ (by simp [roomy]), q.tin⟩
theorem strs_in (xs : List ByteArray) (ho : okL xs) : OK Go.Proofs.Tryd.prog 75 [strsF xs, strsF xs] (fun _ _ r => r = .bool true) := s19' xs ho
theorem strs_pl (xs : List ByteArray) : Pl false (strs xs) := .fld _ (pf_strs xs)
theorem strs_plF (xs : List ByteArray) : Pl true (strsF xs) := .fld _ (pf_strsF xs)
abbrev hunksF (xs : List HunkL) : AV := fullL hunkF hunkV fillL xs
theorem hunks_pl (xs : List HunkL) : Pl false (hunksV xs) := .fld _ (pf_lv _ _)
theorem hunks_plF (xs : List HunkL) : Pl true (hunksF xs) := .fld _ (pf_full _ _ _ _)
end Go.AVM
