/- Paths: the plain law. -/
import Derived.Test.YtnanbjnadkoekaaDoorVT
import Derived.Lib.Bytealg
set_option linter.unusedSimpArgs false
set_option linter.unusedVariables false
namespace Go.AVM
abbrev mkB (l : List UInt8) : ByteArray := ⟨l.toArray⟩
theorem mkB_data (s : ByteArray) : mkB s.data.toList = s := by cases s; rfl
theorem mkB_size (l : List UInt8) : (mkB l).size = l.length := by simp [ByteArray.size]
theorem mkB_list (l : List UInt8) : (mkB l).data.toList = l := by simp
theorem ex_mkB (l : List UInt8) (i j : Nat) (hj : j ≤ l.length) : (mkB l).extract i j = mkB ((l.drop i).take (j - i)) := by
  apply ByteArray.ext
  rw [ByteArray.data_extract]
  simp only [List.extract_toArray, List.extract_eq_take_drop]
/-- the pieces between strokes -/
def splitL : List UInt8 → List (List UInt8)
  | [] => [[]]
  | b :: l => if b = 47 then [] :: splitL l else match splitL l with
    | x :: xs => (b :: x) :: xs
    | [] => [[b]]
theorem splitL_ne : ∀ l, splitL l ≠ []
  | [] => by simp [splitL]
  | b :: l => by
    unfold splitL
    split
    · simp
    · split <;> simp
theorem splitL_len : ∀ l : List UInt8, (splitL l).length = l.count 47 + 1
  | [] => rfl
  | b :: l => by
    have ih := splitL_len l
    unfold splitL
    by_cases h : b = 47
    · subst h
      rw [if_pos rfl, List.length_cons, ih, List.count_cons_self]
    · rw [if_neg h, List.count_cons_of_ne (by simpa using h)]
      cases hs : splitL l with
      | nil => exact absurd hs (splitL_ne l)
      | cons x xs => rw [hs] at ih; simpa using ih
theorem splitL_none {l : List UInt8} (h : Lib.indexByte l 47 = -1) : splitL l = [l] := by
  induction l with
  | nil => rfl
  | cons b l ih =>
    unfold Lib.indexByte at h
    by_cases hb : b = 47
    · subst hb
      simp at h
    · have hb' : (b == (47 : UInt8)) = false := by simpa using hb
      rw [hb'] at h
      simp only [Bool.false_eq_true, if_false] at h
      have hl : Lib.indexByte l 47 = -1 := by
        split at h
        · rename_i h'; simpa using h'
        · have := Lib.indexByte_ge l 47; omega
      unfold splitL
      rw [if_neg hb, ih hl]
theorem splitL_some : ∀ {l : List UInt8} {m : Nat}, Lib.indexByte l 47 = m → m < l.length ∧ splitL l = l.take m :: splitL (l.drop (m + 1))
  | [], m, h => by simp [Lib.indexByte] at h
  | b :: l, m, h => by
    unfold Lib.indexByte at h
    by_cases hb : b = 47
    · subst hb
      have hm : m = 0 := by
        have h' : (0 : Int) = (m : Int) := by simpa using h
        omega
      subst hm
      exact ⟨by simp, by simp [splitL]⟩
    · have hb' : (b == (47 : UInt8)) = false := by simpa using hb
      rw [hb'] at h
      simp only [Bool.false_eq_true, if_false] at h
      split at h
      · omega
      · obtain ⟨k, hk⟩ := Int.eq_ofNat_of_zero_le (show 0 ≤ Lib.indexByte l 47 by have := Lib.indexByte_ge l 47; rename_i h'; simp at h'; omega)
        obtain ⟨h1, h2⟩ := splitL_some hk
        obtain rfl : m = k + 1 := by omega
        refine ⟨by simp; omega, ?_⟩
        have e : splitL (b :: l) = (match splitL l with
          | x :: xs => (b :: x) :: xs
          | [] => [[b]]) := by rw [splitL, if_neg hb]
        rw [e, h2]
        simp only [List.take_succ_cons, List.drop_succ_cons]
def pieces (s : ByteArray) : List ByteArray := (splitL s.data.toList).map mkB
/-- a name: small letters and figures, one to six -/
def nmB (b : UInt8) : Bool := decide (97 ≤ b.toNat ∧ b.toNat ≤ 122) || decide (48 ≤ b.toNat ∧ b.toNat ≤ 57)
def nmOk (s : ByteArray) : Bool := s.data.toList.all nmB && decide (1 ≤ s.size ∧ s.size ≤ 6)
def pathOk (s : ByteArray) : Bool := decide ((pieces s).length ≤ 3) && (pieces s).all nmOk
/-- cut at strokes, so many times at most -/
def cutL : Nat → List UInt8 → List (List UInt8)
  | 0, l => [l]
  | n + 1, l => match Lib.indexByte l 47 with
    | .ofNat m => l.take m :: cutL n (l.drop (m + 1))
    | .negSucc _ => [l]
theorem cutL_split : ∀ (n : Nat) (l : List UInt8), (splitL l).length ≤ n + 1 → cutL n l = splitL l
  | 0, l, h => by
    cases hi : Lib.indexByte l 47 with
    | ofNat m =>
      obtain ⟨_, h2⟩ := splitL_some (m := m) hi
      have := splitL_ne (l.drop (m + 1))
      rw [h2] at h
      cases hs : splitL (l.drop (m + 1)) with
      | nil => exact absurd hs this
      | cons x xs => rw [hs] at h; simp at h
    | negSucc k =>
      have := Lib.indexByte_ge l 47
      rw [splitL_none (by omega)]
      rfl
  | n + 1, l, h => by
    simp only [cutL]
    cases hi : Lib.indexByte l 47 with
    | ofNat m =>
      obtain ⟨_, h2⟩ := splitL_some (m := m) hi
      show l.take m :: cutL n (l.drop (m + 1)) = _
      rw [h2] at h ⊢
      rw [cutL_split n _ (by simpa using h)]
    | negSucc k =>
      show [l] = _
      have := Lib.indexByte_ge l 47
      rw [splitL_none (by omega)]
theorem cutL_len : ∀ (n : Nat) (l : List UInt8), n + 1 ≤ (splitL l).length → (cutL n l).length = n + 1
  | 0, l, h => rfl
  | n + 1, l, h => by
    simp only [cutL]
    cases hi : Lib.indexByte l 47 with
    | ofNat m =>
      obtain ⟨_, h2⟩ := splitL_some (m := m) hi
      show (l.take m :: cutL n (l.drop (m + 1))).length = _
      rw [h2] at h
      rw [List.length_cons, cutL_len n _ (by simpa using h)]
    | negSucc k =>
      have := Lib.indexByte_ge l 47
      rw [splitL_none (by omega)] at h
      simp at h
/-- the reference's way -/
theorem pathOk_cut (s : ByteArray) : pathOk s = (((cutL 3 s.data.toList).map mkB).all nmOk && decide ((cutL 3 s.data.toList).length ≤ 3)) := by
  unfold pathOk pieces
  rw [List.length_map]
  by_cases h : (splitL s.data.toList).length ≤ 4
  · rw [cutL_split 3 _ (by omega), Bool.and_comm]
  · rw [cutL_len 3 _ (by omega)]
    simp [show ¬ (splitL s.data.toList).length ≤ 3 by omega]
end Go.AVM
