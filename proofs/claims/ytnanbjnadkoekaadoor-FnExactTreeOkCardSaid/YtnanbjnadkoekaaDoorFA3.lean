import Derived.Test.YtnanbjnadkoekaaDoorFA2
set_option linter.unusedSimpArgs false
namespace Go.AVM
theorem okL_of {xs : List ByteArray} {k : Nat} (hk : k ≤ 1000000) {i : Int} (hi : 0 ≤ i) (h : i + xs.length + szs xs = k) : okL xs := by
  refine ⟨by omega, fun s hs => ?_⟩
  have : s.size ≤ szs xs := by
    unfold szs
    clear h
    induction xs with
    | nil => cases hs
    | cons x xs ih =>
      rw [List.map_cons, List.sum_cons]
      rcases List.mem_cons.1 hs with rfl | hs
      · omega
      · have := ih hs
        omega
  omega
theorem roomy_len (xs : List ByteArray) : (roomy xs).length = xs.length + rm xs.length := by simp [roomy]
/-- what a callee reads of a list with room behind it -/
theorem rd_roomy (H : Hp) (t : Option (Nat × Nat)) (xs : List ByteArray) : rd3o false H (.lsl t xs.length ((roomy xs).map .str)) = some (strs xs, []) := by
  simp [strs, rd3o, rd2o, rdpo, rd1o, roomy]
theorem rd_roomyT (H : Hp) (t : Option (Nat × Nat)) (xs : List ByteArray) : rd3o true H (.lsl t xs.length ((roomy xs).map .str)) = some (.lsl none xs.length ((roomy xs).map .str), []) := by
  simp [rd3o, rd2o, rdpo, rd1o]
theorem rd_emp (H : Hp) : rd3o false H .emp = some (strs [], []) := by
  simp [strs, rd3o, rd2o, rdpo, rd1o]
end Go.AVM
