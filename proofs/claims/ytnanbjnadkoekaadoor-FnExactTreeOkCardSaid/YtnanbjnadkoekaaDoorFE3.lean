/- What the law makes of a list of hunks, marked; lists of hunks as results. -/
import Derived.Test.YtnanbjnadkoekaaDoorFE2
set_option linter.unusedSimpArgs false
set_option linter.unusedVariables false
namespace Go.AVM
theorem rm_le2 (k : Nat) : rm k ≤ k + 1 := rm_le k
theorem IsStr.sl {lo hi : Nat} {xs : List ByteArray} {r : AV} (h : IsStr lo hi xs r) : SlOk r := by
  rcases h with ⟨_, rfl⟩ | ⟨g, _, _, rfl⟩
  · exact .inl rfl
  · exact .inr ⟨g, xs.length, roomy xs, rfl, by simp [roomy]⟩
theorem IsStr.len {lo hi : Nat} {xs : List ByteArray} {r : AV} (h : IsStr lo hi xs r) : lenV r = xs.length := by
  rcases h with ⟨rfl, rfl⟩ | ⟨g, _, _, rfl⟩ <;> rfl
theorem rows_of : ∀ (ys : List AV), (∀ y ∈ ys, ∃ q : HRow, q.ok ∧ y = q.v) → ∃ qs : List HRow, ys = qs.map HRow.v ∧ ∀ q ∈ qs, q.ok
  | [], _ => ⟨[], rfl, by simp⟩
  | y :: ys, h => by
    obtain ⟨q, hq, rfl⟩ := h y List.mem_cons_self
    obtain ⟨qs, rfl, hqs⟩ := rows_of ys fun z hz => h z (List.mem_cons_of_mem _ hz)
    exact ⟨q :: qs, rfl, fun z hz => (List.mem_cons.1 hz).elim (fun e => e ▸ hq) (hqs z)⟩
theorem IsL.hsl {lo hi : Nat} {xs : List HunkL} {b : Bool} {r : AV} (ho : okHs xs) (h : IsL 3 (fun lo hi x r => IsHunk lo hi x b r) FlH lo hi xs b r) : HSl r := by
  rcases h with ⟨_, rfl, _⟩ | ⟨g, rows, h1, h2, rfl, hl, ht, hi', hf⟩
  · exact .inl rfl
  · obtain ⟨qs, rfl, hqs⟩ := rows_of rows fun y hy => by
      obtain ⟨i, hlt, rfl⟩ := List.getElem_of_mem hy
      by_cases hi : i < xs.length
      · obtain ⟨_, _, l1, l2, m1, m2, e, _, _, _, q1, q2, _⟩ := hi' i _ _ (List.getElem?_eq_getElem hi) (List.getElem?_eq_getElem hlt)
        have hx := ho.2 _ (List.getElem_mem hi)
        have a1 := hx.1.1
        have a2 := hx.2.1
        have b1 := q1.len
        have b2 := q2.len
        exact ⟨⟨xs[i].at_, l1, l2⟩, ⟨q1.sl, q2.sl, by dsimp only; omega, by dsimp only; omega⟩, e⟩
      · obtain ⟨b1, b2, e⟩ := hf i _ (by omega) (List.getElem?_eq_getElem hlt)
        exact ⟨⟨_, _, _⟩, ⟨.inr ⟨b1, 1, [spare], rfl, by simp⟩, .inr ⟨b2, 1, [spare], rfl, by simp⟩, by simp [lenV], by simp [lenV]⟩, e⟩
    have := ho.1
    rw [tags_rows] at ht
    exact .inr ⟨g, xs.length, qs, rfl, by simpa using (show xs.length ≤ (qs.map HRow.v).length by omega), by omega, hqs, ht.1⟩
end Go.AVM
