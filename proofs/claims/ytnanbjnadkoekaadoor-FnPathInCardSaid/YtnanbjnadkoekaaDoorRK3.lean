/- Kinds of arguments, as a caller hands them in: bytes. -/
import Derived.Test.YtnanbjnadkoekaaDoorRK
import Derived.Test.YtnanbjnadkoekaaDoorMR
set_option linter.unusedSimpArgs false
set_option linter.unusedVariables false
namespace Go.AVM
theorem fits_u8 {x : AV} (h : Fits (.int .u8) x) : ∃ y : UInt8, x = ub y ∧ True := by
  obtain ⟨n, rfl, h1, h2⟩ := fits_int h
  have e1 : IntKind.min .u8 = 0 := by decide
  have e2 : IntKind.max .u8 = 255 := by decide
  rw [e1] at h1
  rw [e2] at h2
  refine ⟨UInt8.ofNat n.toNat, ?_, trivial⟩
  have : (UInt8.ofNat n.toNat).toNat = n.toNat := by
    rw [UInt8.toNat_ofNat']
    omega
  unfold ub
  rw [this, show ((n.toNat : Nat) : Int) = n by omega]
theorem fits_bytes {x : AV} (h : Fits (.sl (.int .u8)) x) : ∃ bs : List UInt8, x = byL bs.length bs ∧ bs.length ≤ 9223372036854775807 := by
  obtain ⟨bs, h1, h2, _⟩ := fits_list _ ub (fun _ => True) (fun _ => fits_u8) h
  exact ⟨bs, h1, h2⟩
end Go.AVM
