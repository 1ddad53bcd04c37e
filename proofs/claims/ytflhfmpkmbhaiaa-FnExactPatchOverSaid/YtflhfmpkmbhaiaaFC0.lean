/- Kinds of arguments, told alike: for the laws. -/
import Derived.Test.YtflhfmpkmbhaiaaFC1
set_option linter.unusedSimpArgs false
set_option linter.unusedVariables false
namespace Go.AVM
/-- what toX gives, for whichever X -/
def ToR (plain full : AV) (b : Bool) (lo hi : Nat) (r : AV) : Prop := Wk r plain ∧ (b = false → Wk r full) ∧ Tin lo hi (tags r)
def SzR (ok : Prop) (k : Nat) (r : AV) : Prop := ∃ i : Int, r = .int .i64 i ∧ (0 ≤ i → ok ∧ ∃ k' : Nat, i = k' ∧ k' ≤ k)
abbrev strs_wf := wfS
theorem strs_sz (xs : List ByteArray) (k : Nat) (hk : k ≤ 1000000) (hw : wfS xs) : OK Go.Proofs.Try.prog 5 [strs xs, .int .i64 k] (fun _ _ r => SzR (okL xs) k r) := s15' xs k hk hw
theorem strs_to (xs : List ByteArray) (b : Bool) (ho : okL xs) : OK Go.Proofs.Try.prog 8 [strs xs, .bool b] (fun lo hi r => ToR (strs xs) (strsF xs) b lo hi r) :=
  (s_toStringS xs b ho).weak fun lo hi r ⟨q, q'⟩ => ⟨q.wk, fun hb => by obtain ⟨g, _, _, rfl⟩ := q' hb; exact Wk.strip _ _ _ (by simp [roomy]), q.tin⟩
theorem strs_in (xs : List ByteArray) (ho : okL xs) : OK Go.Proofs.Try.prog 12 [strsF xs, strsF xs] (fun _ _ r => r = .bool true) := s19' xs ho
theorem strs_pl (xs : List ByteArray) : Pl false (strs xs) := .fld _ (pf_strs xs)
theorem strs_plF (xs : List ByteArray) : Pl true (strsF xs) := .fld _ (pf_strsF xs)
theorem hunks_sz (xs : List HunkL) (k : Nat) (hk : k ≤ 1000000) (hw : wfHs xs) : OK Go.Proofs.Try.prog 6 [hunksV xs, .int .i64 k] (fun _ _ r => SzR (okHs xs) k r) := s_szHunkS xs k hk hw
abbrev hunksF (xs : List HunkL) : AV := fullL hunkF hunkV fillL xs
theorem hunks_to (xs : List HunkL) (b : Bool) (ho : okHs xs) : OK Go.Proofs.Try.prog 9 [hunksV xs, .bool b] (fun lo hi r => ToR (hunksV xs) (hunksF xs) b lo hi r) :=
  (s_toHunkS xs b ho).weak fun lo hi r q => ⟨q.wk fun _ _ _ _ h => h.wk, fun hb => by subst hb; exact q.wkF (e := hunkV) (fx := fillL) (fun _ h => h.wk) fun _ _ _ _ h => h.wkF, q.tin⟩
theorem hunks_in (xs : List HunkL) (ho : okHs xs) : OK Go.Proofs.Try.prog 13 [hunksF xs, hunksF xs] (fun _ _ r => r = .bool true) := s_intactHunkS xs ho
theorem hunks_pl (xs : List HunkL) : Pl false (hunksV xs) := .fld _ (pf_lv _ _)
theorem hunks_plF (xs : List HunkL) : Pl true (hunksF xs) := .fld _ (pf_full _ _ _ _)
end Go.AVM
