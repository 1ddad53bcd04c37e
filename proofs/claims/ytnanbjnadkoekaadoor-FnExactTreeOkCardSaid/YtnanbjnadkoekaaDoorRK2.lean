/- Kinds of arguments, as a caller hands them in: files. -/
import Derived.Test.YtnanbjnadkoekaaDoorRK
import Derived.Test.YtnanbjnadkoekaaDoorTC1
set_option linter.unusedSimpArgs false
set_option linter.unusedVariables false
namespace Go.AVM
theorem fits_file {x : AV} (h : Fits (.st [.str, .sl .str]) x) : ∃ y : FileL, x = fileV y ∧ wfF y := by
  cases h with
  | st _ xs hl h =>
    match xs, hl with
    | [a, b], _ =>
      obtain ⟨s, rfl, hs⟩ := fits_str (h 0 _ _ rfl rfl)
      obtain ⟨l, rfl, hl⟩ := fits_strs (h 1 _ _ rfl rfl)
      exact ⟨⟨s, l⟩, rfl, hs, hl⟩
theorem fits_files {x : AV} (h : Fits (.sl (.st [.str, .sl .str])) x) : ∃ xs : List FileL, x = filesV xs ∧ wfFs xs :=
  fits_list _ fileV wfF (fun _ => fits_file) h
end Go.AVM
