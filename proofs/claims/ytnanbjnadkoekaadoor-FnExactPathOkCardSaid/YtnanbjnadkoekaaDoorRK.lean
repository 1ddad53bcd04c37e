/- Kinds of arguments, as a caller hands them in. -/
import Derived.Test.YtnanbjnadkoekaaDoorR0
import Derived.Test.YtnanbjnadkoekaaDoorFC0
set_option linter.unusedSimpArgs false
set_option linter.unusedVariables false
namespace Go.AVM
theorem fits_int {x : AV} {k : IntKind} (h : Fits (.int k) x) : ∃ n, x = .int k n ∧ k.min ≤ n ∧ n ≤ k.max := by
  cases h with
  | int _ n h => exact ⟨n, rfl, h⟩
theorem fits_hunk {x : AV} (h : Fits (.st [.int .i64, .sl .str, .sl .str]) x) : ∃ y : HunkL, x = hunkV y ∧ wfH y := by
  cases h with
  | st _ xs hl h =>
    match xs, hl with
    | [a, b, c], _ =>
      obtain ⟨n, rfl, _⟩ := fits_int (h 0 _ _ rfl rfl)
      obtain ⟨l, rfl, hl⟩ := fits_strs (h 1 _ _ rfl rfl)
      obtain ⟨m, rfl, hm⟩ := fits_strs (h 2 _ _ rfl rfl)
      exact ⟨⟨n, l, m⟩, rfl, hl, hm⟩
theorem fits_hunks {x : AV} (h : Fits (.sl (.st [.int .i64, .sl .str, .sl .str])) x) : ∃ xs : List HunkL, x = hunksV xs ∧ wfHs xs :=
  fits_list _ hunkV wfH (fun _ => fits_hunk) h
end Go.AVM
