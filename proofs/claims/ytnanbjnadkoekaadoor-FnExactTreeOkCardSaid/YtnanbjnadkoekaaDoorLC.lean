/- How many lines two lists have together at most, in order: whichever end one begins at. -/
namespace Go.AVM
set_option linter.unusedSimpArgs false
set_option linter.unusedVariables false
section
variable {α : Type} [DecidableEq α]
def lc : List α → List α → Nat
  | [], _ => 0
  | _ :: _, [] => 0
  | x :: xs, y :: ys => if x = y then lc xs ys + 1 else max (lc xs (y :: ys)) (lc (x :: xs) ys)
termination_by a b => a.length + b.length

theorem lc_nil (b : List α) : lc [] b = 0 := by unfold lc; rfl
theorem lc_nil2 (a : List α) : lc a [] = 0 := by
  cases a <;> unfold lc <;> rfl
theorem lc_cons (x y : α) (xs ys : List α) : lc (x :: xs) (y :: ys) = if x = y then lc xs ys + 1 else max (lc xs (y :: ys)) (lc (x :: xs) ys) := by
  rw [lc]
theorem lc_ex : ∀ a b : List α, ∃ c : List α, c.Sublist a ∧ c.Sublist b ∧ c.length = lc a b
  | [], b => ⟨[], List.nil_sublist _, List.nil_sublist _, by rw [lc_nil]; rfl⟩
  | x :: xs, [] => ⟨[], List.nil_sublist _, List.nil_sublist _, by rw [lc_nil2]; rfl⟩
  | x :: xs, y :: ys => by
    rw [lc_cons]
    by_cases h : x = y
    · subst h
      obtain ⟨c, h1, h2, h3⟩ := lc_ex xs ys
      exact ⟨x :: c, h1.cons_cons x, h2.cons_cons x, by rw [if_pos rfl, List.length_cons, h3]⟩
    · rw [if_neg h]
      rcases Nat.le_total (lc xs (y :: ys)) (lc (x :: xs) ys) with hl | hl
      · obtain ⟨c, h1, h2, h3⟩ := lc_ex (x :: xs) ys
        exact ⟨c, h1, h2.cons y, by rw [h3, Nat.max_eq_right hl]⟩
      · obtain ⟨c, h1, h2, h3⟩ := lc_ex xs (y :: ys)
        exact ⟨c, h1.cons x, h2, by rw [h3, Nat.max_eq_left hl]⟩
termination_by a b => a.length + b.length
theorem lc_most : ∀ (a b c : List α), c.Sublist a → c.Sublist b → c.length ≤ lc a b
  | [], b, c, h1, _ => by rw [List.sublist_nil.1 h1]; exact Nat.zero_le _
  | x :: xs, [], c, _, h2 => by rw [List.sublist_nil.1 h2]; exact Nat.zero_le _
  | x :: xs, y :: ys, c, h1, h2 => by
    rw [lc_cons]
    cases c with
    | nil => exact Nat.zero_le _
    | cons z cs =>
      by_cases h : x = y
      · subst h
        rw [if_pos rfl, List.length_cons]
        have g1 : cs.Sublist xs := by
          rcases List.sublist_cons_iff.1 h1 with h1 | ⟨r, hr, h1⟩
          · exact (List.sublist_cons_self z cs).trans h1
          · obtain ⟨rfl, rfl⟩ : z = x ∧ cs = r := by simpa using hr
            exact h1
        have g2 : cs.Sublist ys := by
          rcases List.sublist_cons_iff.1 h2 with h2 | ⟨r, hr, h2⟩
          · exact (List.sublist_cons_self z cs).trans h2
          · obtain ⟨_, rfl⟩ : z = x ∧ cs = r := by simpa using hr
            exact h2
        exact Nat.succ_le_succ (lc_most xs ys cs g1 g2)
      · rw [if_neg h]
        rcases List.sublist_cons_iff.1 h1 with h1' | ⟨r, hr, h1'⟩
        · exact Nat.le_trans (lc_most xs (y :: ys) _ h1' h2) (Nat.le_max_left _ _)
        · rcases List.sublist_cons_iff.1 h2 with h2' | ⟨r', hr', h2'⟩
          · exact Nat.le_trans (lc_most (x :: xs) ys _ h1 h2') (Nat.le_max_right _ _)
          · exfalso
            have e1 : z = x := by simpa using congrArg List.head? hr
            have e2 : z = y := by simpa using congrArg List.head? hr'
            exact h (e1.symm.trans e2)
termination_by a b => a.length + b.length
theorem lc_rev (a b : List α) : lc a.reverse b.reverse = lc a b := by
  apply Nat.le_antisymm
  · obtain ⟨c, h1, h2, h3⟩ := lc_ex a.reverse b.reverse
    have := lc_most a b c.reverse (by simpa using h1.reverse) (by simpa using h2.reverse)
    rw [List.length_reverse] at this
    omega
  · obtain ⟨c, h1, h2, h3⟩ := lc_ex a b
    have := lc_most a.reverse b.reverse c.reverse h1.reverse h2.reverse
    rw [List.length_reverse] at this
    omega
theorem lc_le (a b : List α) : lc a b ≤ a.length := by
  obtain ⟨c, h1, h2, h3⟩ := lc_ex a b
  rw [← h3]
  exact h1.length_le
theorem lc_le2 (a b : List α) : lc a b ≤ b.length := by
  obtain ⟨c, h1, h2, h3⟩ := lc_ex a b
  rw [← h3]
  exact h2.length_le
/-- from the end on -/
def lf (a b : List α) (i j : Nat) : Nat := lc (a.take i).reverse (b.take j).reverse
theorem lf_zero (a b : List α) (j : Nat) : lf a b 0 j = 0 := by simp [lf, lc_nil]
theorem lf_zero2 (a b : List α) (i : Nat) : lf a b i 0 = 0 := by simp [lf, lc_nil2]
theorem lf_step (a b : List α) (i j : Nat) (hi : i < a.length) (hj : j < b.length) : lf a b (i + 1) (j + 1) = if a[i] = b[j] then lf a b i j + 1 else max (lf a b i (j + 1)) (lf a b (i + 1) j) := by
  simp only [lf, List.take_succ_eq_append_getElem hi, List.take_succ_eq_append_getElem hj, List.reverse_append, List.reverse_cons, List.reverse_nil, List.nil_append, List.cons_append]
  rw [lc_cons]
theorem lf_all (a b : List α) : lf a b a.length b.length = lc a b := by simp [lf, lc_rev]
theorem lf_le (a b : List α) (i j : Nat) : lf a b i j ≤ a.length := by
  have := lc_le (a.take i).reverse (b.take j).reverse
  simp only [List.length_reverse, List.length_take] at this
  unfold lf
  omega
/-- from a place of both on -/
def lt (a b : List α) (i j : Nat) : Nat := lc (a.drop i) (b.drop j)
theorem lt_end (a b : List α) (i j : Nat) (h : a.length ≤ i) : lt a b i j = 0 := by simp [lt, List.drop_eq_nil_of_le h, lc_nil]
theorem lt_end2 (a b : List α) (i j : Nat) (h : b.length ≤ j) : lt a b i j = 0 := by simp [lt, List.drop_eq_nil_of_le h, lc_nil2]
theorem lt_step (a b : List α) (i j : Nat) (hi : i < a.length) (hj : j < b.length) : lt a b i j = if a[i] = b[j] then lt a b (i + 1) (j + 1) + 1 else max (lt a b (i + 1) j) (lt a b i (j + 1)) := by
  simp only [lt]
  rw [List.drop_eq_getElem_cons hi, List.drop_eq_getElem_cons hj, lc_cons]
theorem lt_le (a b : List α) (i j : Nat) : lt a b i j ≤ a.length := by
  have := lc_le (a.drop i) (b.drop j)
  simp only [List.length_drop] at this
  unfold lt
  omega
end
end Go.AVM
