/- Kinds of arguments, as a caller hands them in. -/
import Derived.Test.YtflhfmpkmbhaiaaR0
import Derived.Test.YtflhfmpkmbhaiaaMC
import Derived.SizedLaws
set_option linter.unusedSimpArgs false
set_option linter.unusedVariables false
namespace Go.AVM
theorem fits_int {x : AV} {k : IntKind} (h : Fits (.int k) x) : ∃ n, x = .int k n ∧ k.min ≤ n ∧ n ≤ k.max := by
  cases h with
  | int _ n h => exact ⟨n, rfl, h⟩
theorem fits_hunk {x : AV} (h : Fits (.st [.int .i64, .sl .str, .sl .str]) x) : ∃ y : HunkL, x = hunkV y ∧ wfH y := by
  cases h with
  | st _ xs hl h =>
    match xs, hl with
    | [a, b, c], _ =>
      obtain ⟨n, rfl, _⟩ := fits_int (h 0 _ _ rfl rfl)
      obtain ⟨l, rfl, hl⟩ := fits_strs (h 1 _ _ rfl rfl)
      obtain ⟨m, rfl, hm⟩ := fits_strs (h 2 _ _ rfl rfl)
      exact ⟨⟨n, l, m⟩, rfl, hl, hm⟩
theorem fits_hunks {x : AV} (h : Fits (.sl (.st [.int .i64, .sl .str, .sl .str])) x) : ∃ xs : List HunkL, x = hunksV xs ∧ wfHs xs :=
  fits_list _ hunkV wfH (fun _ => fits_hunk) h
/-- a text that is handed in, as its bulk is told -/
theorem str_weight {H : Type} {enc : TypeId × Value → H} {P : Program} {w : World} {S : Nat → Prop} {base : Nat} {spare : Nat → Bool} {held : Bool} {t : TypeId} {s : ByteArray} {v : Value} {d : DataW H} {ps : List MemPlace} (ht : P.underlying t = some .string) (h : DataW.Trod enc P w base spare held t v d ps) (hr : RV w S (.str s) v) : d = .lit (.string s.data.toList) := by
  obtain ⟨fuel, h⟩ := h
  have e := hr.str_inv
  subst e
  obtain ⟨s', h1, h2, _⟩ := DataW.trod_string ht h
  have h3 : s = s' := by simpa [Value.cells] using h1
  subst h3
  exact congrArg Prod.fst h2
theorem str_size {P : Program} {H : Type} {ts : List TypeId} {ds : List (DataW H)} (h : (DataW.weightsEach P ts ds).all (· ≤ reachBytes) = true) {j : Nat} {t : TypeId} {s : ByteArray} (ht : ts[j]? = some t) (hd : ds[j]? = some (.lit (.string s.data.toList))) : s.size ≤ 140737488355328 := by
  have h1 := sized_string h ht hd
  have h2 := reachBytes_lt
  have h3 : s.data.toList.length = s.size := Array.length_toList
  omega
end Go.AVM
