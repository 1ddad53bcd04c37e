/- Kinds of arguments, as a caller hands them in: files. -/
import Derived.Test.YtmcacnhmdfnpgaaDoorRK
import Derived.Test.YtmcacnhmdfnpgaaDoorMT
set_option linter.unusedSimpArgs false
set_option linter.unusedVariables false
namespace Go.AVM
theorem fits_file {x : AV} (h : Fits (.st [.str, .sl .str]) x) : ∃ y : FileL, x = fileV y ∧ wfF y := by
  cases h with
  | st _ xs hl h =>
    match xs, hl with
    | [a, b], _ =>
      obtain ⟨s, rfl, hs⟩ := fits_str (h 0 _ _ rfl rfl)
      obtain ⟨l, rfl, hl⟩ := fits_strs (h 1 _ _ rfl rfl)
      exact ⟨⟨s, l⟩, rfl, hs, hl⟩
theorem fits_files {x : AV} (h : Fits (.sl (.st [.str, .sl .str])) x) : ∃ xs : List FileL, x = filesV xs ∧ wfFs xs :=
  fits_list _ fileV wfF (fun _ => fits_file) h
/-- a list that is handed in, as its bulk is told -/
theorem sl_size {P : Program} {H : Type} {enc : TypeId × Value → H} {ts : List TypeId} {ds : List (DataW H)} (hz : (DataW.weightsEach P ts ds).all (· ≤ reachBytes) = true) {j : Nat} {t e : TypeId} {w : World} {S : Nat → Prop} {base : Nat} {spare : Nat → Bool} {held : Bool} {n : Nat} {ys : List AV} {v : Value} {d : DataW H} {ps : List MemPlace}
    (ht : ts[j]? = some t) (hd : ds[j]? = some d) (hu : P.underlying t = some (.slice e)) (hb : 0 < P.bytesOf e) (h : DataW.Trod enc P w base spare held t v d ps) (hr : RV w S (.lsl none n ys) v) : n ≤ 140737488355328 := by
  obtain ⟨fuel, h⟩ := h
  obtain ⟨a, cap, s, cells, rfl, _⟩ := hr.lsl_inv
  rcases DataW.trod_slice hu h with ⟨h1, _⟩ | ⟨a', len, cap', elems, rest, m, _, h1, h2, _, _, _, hl, _⟩
  · simp [Value.cells] at h1
    omega
  · have hd' : d = .slice (elems.map (·.1)) (rest.map (·.1)) := congrArg Prod.fst h2
    subst hd'
    have h3 := sized_slice hz ht hd hu
    have h4 := reachBytes_lt
    simp only [List.length_map] at h3
    have h5 : n = len := by
      simp [Value.cells] at h1
      exact h1.2.1
    have h6 := Nat.le_mul_of_pos_right (elems.length + rest.length) hb
    omega
end Go.AVM
