/- match, both. -/
import Derived.Test.YtnanbjnadkoekaaDoorFD1
set_option linter.unusedSimpArgs false
set_option linter.unusedVariables false
namespace Go.AVM
def mt : List ByteArray → List ByteArray → Nat → List Int
  | [], _, _ => []
  | _ :: xs, [], j => -1 :: mt xs [] j
  | x :: xs, y :: ys, j => if x = y then (j : Int) :: mt xs ys (j + 1) else if lc (x :: xs) ys ≤ lc xs (y :: ys) then -1 :: mt xs (y :: ys) j else mt (x :: xs) ys (j + 1)
termination_by a b => a.length + b.length
theorem mt_nil (ys : List ByteArray) (j : Nat) : mt [] ys j = [] := by rw [mt]
theorem mt_nil2 (x : ByteArray) (xs : List ByteArray) (j : Nat) : mt (x :: xs) [] j = -1 :: mt xs [] j := by rw [mt]
theorem mt_cons (x y : ByteArray) (xs ys : List ByteArray) (j : Nat) : mt (x :: xs) (y :: ys) j = if x = y then (j : Int) :: mt xs ys (j + 1) else if lc (x :: xs) ys ≤ lc xs (y :: ys) then -1 :: mt xs (y :: ys) j else mt (x :: xs) ys (j + 1) := by rw [mt]
theorem sl_drop (H : Hp) (xs : List ByteArray) (l : Nat) (h : l ≤ xs.length) : slcv H 1 (strs xs) (some (.int .i64 l)) none = some (strs (xs.drop l)) := by
  have hd : hdOk 1 (xs.map AV.str) = true := by cases xs <;> simp [hdOk, AV.sz]
  simp [slcv, strs, hd, Int.ofNat_le, h]
theorem sl_dropI (H : Hp) (xs : List ByteArray) (z : Int) (l : Nat) (hz : z = l) (h : l ≤ xs.length) : slcv H 1 (strs xs) (some (.int .i64 z)) none = some (strs (xs.drop l)) := by
  subst hz
  exact sl_drop H xs l h
/-- a list of numbers that is the call's own, and new -/
def IsInts (lo hi : Nat) (l : List Int) (r : AV) : Prop := ∃ g, lo ≤ g ∧ g < hi ∧ r = .lsl (some (g, 1)) l.length (l.map iz)
theorem mt_next {xs ys : List ByteArray} {i j : Nat} (hi : i < xs.length) : mt (xs.drop i) (ys.drop j) j =
    if h : j < ys.length then (if xs[i] = ys[j] then (j : Int) :: mt (xs.drop (i + 1)) (ys.drop (j + 1)) (j + 1) else if lc (xs.drop i) (ys.drop (j + 1)) ≤ lc (xs.drop (i + 1)) (ys.drop j) then -1 :: mt (xs.drop (i + 1)) (ys.drop j) j else mt (xs.drop i) (ys.drop (j + 1)) (j + 1))
    else -1 :: mt (xs.drop (i + 1)) (ys.drop j) j := by
  by_cases h : j < ys.length
  · rw [dif_pos h, List.drop_eq_getElem_cons hi, List.drop_eq_getElem_cons h, mt_cons]
  · rw [dif_neg h, List.drop_eq_getElem_cons hi, List.drop_eq_nil_of_le (show ys.length ≤ j by omega), mt_nil2]
end Go.AVM
