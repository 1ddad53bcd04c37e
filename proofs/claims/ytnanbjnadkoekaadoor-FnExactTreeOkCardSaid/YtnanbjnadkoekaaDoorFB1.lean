/- impl.lcs. -/
import Derived.Test.YtnanbjnadkoekaaDoorG
import Derived.Test.YtnanbjnadkoekaaDoorVJ
import Derived.Test.YtnanbjnadkoekaaDoorVK
import Derived.Test.YtnanbjnadkoekaaDoorLC
import Derived.Test.YtnanbjnadkoekaaDoorFA3
set_option linter.unusedSimpArgs false
set_option linter.unusedVariables false
namespace Go.AVM
abbrev iv (n : Nat) : AV := .int .i64 n
theorem x_ownI (d b s len : Nat) (z : Int) (i : Nat) (hz : z = i) (h : i < len) : idxAv s (.own d b s len) (.int .i64 z) = some (.optr d b s i none) := by
  subst hz
  exact x_own d b s len i h
theorem ld_map {α : Type} (e : α → AV) {H : Hp} {d b i : Nat} {ys : List α} {fz row ex : Bool} (hH : H d = some ⟨b, 1, ys.map e, fz, row, ex⟩) (hi : i < ys.length) (h1 : fitsz none (e ys[i]) = true) (h2 : (e ys[i]).sz = 1) :
    ldv H none (.optr d b 1 i none) = some (e ys[i]) := by
  have h5 : (ys.map e)[i]? = some (e ys[i]) := by simp [hi]
  simp only [ldv]
  rw [hH]
  simp [h5, h1, h2]
theorem ld_int {H : Hp} {d b i : Nat} {ys : List Nat} {fz row ex : Bool} (hH : H d = some ⟨b, 1, ys.map iv, fz, row, ex⟩) (hi : i < ys.length) : ldv H none (.optr d b 1 i none) = some (iv ys[i]) :=
  ld_map iv hH hi rfl rfl
theorem st_int {H : Hp} {d b i : Nat} {ys : List Nat} {row ex : Bool} {x : Nat} (hH : H d = some ⟨b, 1, ys.map iv, false, row, ex⟩) (hi : i < ys.length) :
    stv H none (.int .i64 x) (.optr d b 1 i none) = some (updH H d (some ⟨b, 1, (ys.set i x).map iv, false, row, ex⟩)) :=
  st_map iv hH hi rfl (fun _ => rfl) rfl rfl
theorem mx_int (a b : Nat) : mxv true (.int .i64 a) (.int .i64 b) = some (iv (max a b)) := by
  simp only [mxv, if_true]
  congr 2
  by_cases h : a < b
  · rw [if_pos (by omega), Nat.max_eq_right (by omega)]
  · rw [if_neg (by omega), Nat.max_eq_left (by omega)]
/-- a row of numbers -/
def tab (f : Nat → Nat) (m : Nat) : List Nat := (List.range m).map f
theorem tab_len (f : Nat → Nat) (m : Nat) : (tab f m).length = m := by simp [tab]
theorem tab_get (f : Nat → Nat) (m i : Nat) (h : i < (tab f m).length) : (tab f m)[i] = f i := by simp [tab]
theorem tab_set (f g : Nat → Nat) (m i x : Nat) (h : g i = x) (hne : ∀ j, j < m → j ≠ i → g j = f j) : (tab f m).set i x = tab g m := by
  apply List.ext_getElem?
  intro j
  rw [List.getElem?_set]
  simp only [tab, List.length_map, List.length_range, List.getElem?_map]
  by_cases hj : j < m
  · rw [List.getElem?_range hj]
    by_cases hij : i = j
    · subst hij
      simp [hj, h]
    · rw [if_neg hij]
      simp [hne j hj (fun e => hij e.symm)]
  · by_cases hij : i = j
    · subst hij
      simp [hj]
    · rw [if_neg hij]
      have : (List.range m)[j]? = none := List.getElem?_eq_none (by simpa using hj)
      simp [this]
theorem tab_ext (f g : Nat → Nat) (m : Nat) (h : ∀ j, j < m → f j = g j) : tab f m = tab g m := by
  apply List.ext_getElem
  · simp [tab]
  · intro i h1 h2
    rw [tab_get, tab_get]
    exact h i (by simpa [tab] using h1)
theorem rep_tab (m : Nat) : (List.replicate m (AV.int .i64 0)) = (tab (fun _ => 0) m).map iv := by
  apply List.ext_getElem
  · simp [tab]
  · intro i h1 h2
    simp [tab]

end Go.AVM
