/- Trees: the plain law. -/
import Derived.Test.YtnanbjnadkoekaaDoorTT0
import Derived.Test.YtnanbjnadkoekaaDoorTC1
set_option linter.unusedSimpArgs false
set_option linter.unusedVariables false
namespace Go.AVM
/-- of each element, by its place -/
def allI {α : Type} (p : Nat → α → Bool) (t : List α) : Bool := (List.range t.length).all fun j => ((t[j]?).map (p j)).getD true
theorem allI_iff {α : Type} {p : Nat → α → Bool} {t : List α} : allI p t = true ↔ ∀ j f, t[j]? = some f → p j f = true := by
  unfold allI
  rw [List.all_eq_true]
  constructor
  · intro h j f hf
    have hj := (List.getElem?_eq_some_iff.1 hf).1
    have := h j (List.mem_range.2 hj)
    rw [hf] at this
    exact this
  · intro h j hj
    cases hf : t[j]? with
    | none => rfl
    | some f => exact h j f hf
theorem allI_no {α : Type} {p : Nat → α → Bool} {t : List α} {j : Nat} {f : α} (hf : t[j]? = some f) (h : p j f = false) : allI p t = false := by
  cases h' : allI p t with
  | false => rfl
  | true => rw [allI_iff.1 h' j f hf] at h; cases h
theorem allI_yes {α : Type} {p : Nat → α → Bool} {t : List α} (h : ∀ j, j < t.length → ∀ f, t[j]? = some f → p j f = true) : allI p t = true :=
  allI_iff.2 fun j f hf => h j (List.getElem?_eq_some_iff.1 hf).1 f hf
def prevLt (t : List FileL) (i : Nat) (f : FileL) : Bool := decide (i = 0) || ((t[i - 1]?).map fun g => sLt g.path f.path).getD true
def okI (t : List FileL) (i : Nat) (f : FileL) : Bool := pathOk f.path && (textOk f.text && (prevLt t i f && !((t.take i).any fun o => pathIn o.path f.path)))
def okS (t : List FileL) (i : Nat) (f : FileL) : Bool := pathOk f.path && (textOk f.text && (prevLt t i f && !(t.any fun o => inB f.path o.path)))
def treeOk (t : List FileL) : Bool := allI (okI t) t && decide (t.length ≤ 8)
def treeOkS (t : List FileL) : Bool := allI (okS t) t && decide (t.length ≤ 8)
theorem asc_of {t : List FileL} (h : ∀ j f, t[j]? = some f → prevLt t j f = true) : ∀ (k i : Nat) (a b : FileL), i < k → t[i]? = some a → t[k]? = some b → sLt a.path b.path = true := by
  intro k
  induction k with
  | zero => intro i a b hi; omega
  | succ k ih =>
    intro i a b hi ha hb
    have hk := (List.getElem?_eq_some_iff.1 hb).1
    have hc : t[k]? = some t[k] := List.getElem?_eq_getElem (by omega)
    have h1 := h (k + 1) b hb
    simp only [prevLt, Nat.add_sub_cancel, hc, Option.map_some, Option.getD_some, Bool.or_eq_true, decide_eq_true_eq] at h1
    have h2 : sLt t[k].path b.path = true := by
      rcases h1 with h1 | h1
      · omega
      · exact h1
    by_cases hik : i = k
    · subst hik
      rw [hc] at ha
      obtain rfl := Option.some.inj ha
      exact h2
    · exact sLt_trans (ih i a t[k] (by omega) ha hc) h2
theorem treeOkS_eq (t : List FileL) : treeOkS t = treeOk t := by
  unfold treeOkS treeOk
  congr 1
  rw [Bool.eq_iff_iff, allI_iff, allI_iff]
  constructor
  · intro h j f hf
    have h1 := h j f hf
    simp only [okS, okI, Bool.and_eq_true, Bool.not_eq_true'] at h1 ⊢
    refine ⟨h1.1, h1.2.1, h1.2.2.1, ?_⟩
    rw [List.any_eq_false]
    intro o ho
    obtain ⟨k, hk, rfl⟩ := List.getElem_of_mem (List.mem_of_mem_take ho)
    have h2 := h k t[k] (List.getElem?_eq_getElem hk)
    simp only [okS, Bool.and_eq_true, Bool.not_eq_true'] at h2
    have h3 := List.any_eq_false.1 h2.2.2.2 f (List.mem_of_getElem? hf)
    rw [pathIn_of h1.1]
    exact h3
  · intro h j f hf
    have h1 := h j f hf
    simp only [okS, okI, Bool.and_eq_true, Bool.not_eq_true'] at h1 ⊢
    refine ⟨h1.1, h1.2.1, h1.2.2.1, ?_⟩
    have hp : ∀ j f, t[j]? = some f → prevLt t j f = true := fun j f hf => by
      have := h j f hf
      simp only [okI, Bool.and_eq_true] at this
      exact this.2.2.1
    rw [List.any_eq_false]
    intro g hg hin
    obtain ⟨k, hk, rfl⟩ := List.getElem_of_mem hg
    have hgk : t[k]? = some t[k] := List.getElem?_eq_getElem hk
    have hlt := in_lt hin
    have h2 := h k _ hgk
    simp only [okI, Bool.and_eq_true, Bool.not_eq_true'] at h2
    rcases Nat.lt_trichotomy j k with hjk | rfl | hjk
    · have hmem : f ∈ t.take k := by
        refine List.mem_of_getElem? (i := j) ?_
        rw [List.getElem?_take_of_lt hjk]
        exact hf
      have h3 := List.any_eq_false.1 h2.2.2.2 f hmem
      rw [pathIn_of h2.1] at h3
      exact h3 hin
    · rw [hgk] at hf
      obtain rfl := Option.some.inj hf
      rw [sLt_irrefl] at hlt
      cases hlt
    · have := asc_of hp j k _ _ hjk hgk hf
      rw [sLt_asymm this] at hlt
      cases hlt
theorem treeOk_len {t : List FileL} (h : treeOk t = true) : t.length ≤ 8 := by
  simp only [treeOk, Bool.and_eq_true, decide_eq_true_eq] at h
  exact h.2
theorem treeOk_at {t : List FileL} (h : treeOk t = true) {j : Nat} {f : FileL} (hf : t[j]? = some f) : pathOk f.path = true ∧ textOk f.text = true := by
  simp only [treeOk, Bool.and_eq_true] at h
  have := allI_iff.1 h.1 j f hf
  simp only [okI, Bool.and_eq_true] at this
  exact ⟨this.1, this.2.1⟩
theorem treeOk_asc {t : List FileL} (h : treeOk t = true) {i k : Nat} {a b : FileL} (hik : i < k) (ha : t[i]? = some a) (hb : t[k]? = some b) : sLt a.path b.path = true := by
  simp only [treeOk, Bool.and_eq_true] at h
  refine asc_of (fun j f hf => ?_) k i a b hik ha hb
  have := allI_iff.1 h.1 j f hf
  simp only [okI, Bool.and_eq_true] at this
  exact this.2.2.1
end Go.AVM
