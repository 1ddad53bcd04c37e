/- spec.l1Match; DiffMatch, both. -/
import Derived.Test.YtnanbjnadkoekaaDoorFD2
set_option linter.unusedSimpArgs false
set_option linter.unusedVariables false
namespace Go.AVM
theorem x_rows (bt : Nat) (bs : Nat → Nat) (f : Nat → Nat → Nat) (N M : Nat) (z : Int) (i : Nat) (hz : z = i) (h : i < N) : idxAv 1 (.lsl (some (bt, 1)) N (rowsV bs f N M)) (.int .i64 z) = some (.lptr (.lsl (some (bs i, 1)) M ((tab (f i) M).map iv))) := by
  subst hz
  simp [idxAv, rowsV, AV.sz, h]
theorem x_row (t : Option (Nat × Nat)) (f : Nat → Nat) (M : Nat) (z : Int) (i : Nat) (hz : z = i) (h : i < M) : idxAv 1 (.lsl t M ((tab f M).map iv)) (.int .i64 z) = some (.lptr (iv (f i))) := by
  subst hz
  simp [idxAv, tab, AV.sz, h]
theorem d_lsl (H : Hp) (t : Option (Nat × Nat)) (n : Nat) (xs : List AV) : ldv H none (.lptr (.lsl t n xs)) = some (.lsl t n xs) := Eq.trans rfl rfl
def dmatch (xs ys : List ByteArray) : List Int := if textOk xs = true ∧ textOk ys = true then mt xs ys 0 else []
def RInts (lo hi : Nat) (l : List Int) (r : AV) : Prop := (l = [] ∧ r = .emp) ∨ IsInts lo hi l r
end Go.AVM
