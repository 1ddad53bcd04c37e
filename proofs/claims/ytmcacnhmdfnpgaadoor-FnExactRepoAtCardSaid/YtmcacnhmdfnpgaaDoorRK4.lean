/- Kinds of arguments, as a caller hands them in: repositories. -/
import Derived.Test.YtmcacnhmdfnpgaaDoorRK2
import Derived.Test.YtmcacnhmdfnpgaaDoorMU
set_option linter.unusedSimpArgs false
set_option linter.unusedVariables false
namespace Go.AVM
theorem fits_i64 {x : AV} (h : Fits (.int .i64) x) : ∃ n : Int, x = iz n ∧ True := by
  obtain ⟨n, rfl, _⟩ := fits_int h
  exact ⟨n, rfl, trivial⟩
theorem fits_ints {x : AV} (h : Fits (.sl (.int .i64)) x) : ∃ xs : List Int, x = ints xs ∧ xs.length ≤ 9223372036854775807 := by
  obtain ⟨xs, h1, h2, _⟩ := fits_list _ iz (fun _ => True) (fun _ => fits_i64) h
  exact ⟨xs, h1, h2⟩
theorem fits_head {x : AV} (h : Fits (.st [.str, .int .i64]) x) : ∃ y : HeadL, x = headV y ∧ wfHd y := by
  cases h with
  | st _ xs hl h =>
    match xs, hl with
    | [a, b], _ =>
      obtain ⟨s, rfl, hs⟩ := fits_str (h 0 _ _ rfl rfl)
      obtain ⟨n, rfl, _⟩ := fits_int (h 1 _ _ rfl rfl)
      exact ⟨⟨s, n⟩, rfl, hs⟩
theorem fits_heads {x : AV} (h : Fits (.sl (.st [.str, .int .i64])) x) : ∃ xs : List HeadL, x = headsV xs ∧ wfHds xs :=
  fits_list _ headV wfHd (fun _ => fits_head) h
theorem fits_commit {x : AV} (h : Fits (.st [.sl (.int .i64), .str, .sl (.st [.str, .sl .str])]) x) : ∃ y : CommitL, x = commitV y ∧ wfC y := by
  cases h with
  | st _ xs hl h =>
    match xs, hl with
    | [a, b, c], _ =>
      obtain ⟨l, rfl, hl⟩ := fits_ints (h 0 _ _ rfl rfl)
      obtain ⟨s, rfl, hs⟩ := fits_str (h 1 _ _ rfl rfl)
      obtain ⟨t, rfl, ht⟩ := fits_files (h 2 _ _ rfl rfl)
      exact ⟨⟨l, s, t⟩, rfl, hl, hs, ht⟩
theorem fits_commits {x : AV} (h : Fits (.sl (.st [.sl (.int .i64), .str, .sl (.st [.str, .sl .str])])) x) : ∃ xs : List CommitL, x = commitsV xs ∧ wfCs xs :=
  fits_list _ commitV wfC (fun _ => fits_commit) h
theorem fits_repo {x : AV} (h : Fits (.st [.sl (.st [.sl (.int .i64), .str, .sl (.st [.str, .sl .str])]), .sl (.st [.str, .int .i64])]) x) : ∃ y : RepoL, x = repoV y ∧ wfR y := by
  cases h with
  | st _ xs hl h =>
    match xs, hl with
    | [a, b], _ =>
      obtain ⟨cs, rfl, hc⟩ := fits_commits (h 0 _ _ rfl rfl)
      obtain ⟨hs, rfl, hh⟩ := fits_heads (h 1 _ _ rfl rfl)
      exact ⟨⟨cs, hs⟩, rfl, hc, hh⟩
end Go.AVM
