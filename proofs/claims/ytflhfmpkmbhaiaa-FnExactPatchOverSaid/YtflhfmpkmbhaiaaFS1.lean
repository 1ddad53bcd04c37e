/- Pieces of texts. -/
import Derived.Test.YtflhfmpkmbhaiaaFE3
import Derived.Test.YtflhfmpkmbhaiaaFD3
set_option linter.unusedSimpArgs false
set_option linter.unusedVariables false
namespace Go.AVM
/-- a piece of a text, with what stands behind it -/
def slS (n : Nat) (ys : List ByteArray) : AV := .lsl none n (ys.map .str)
theorem sl_mid (H : Hp) (xs : List ByteArray) (y z : Int) (f i : Nat) (hy : y = f) (hz : z = i) (h : f ≤ i) (h2 : i ≤ xs.length) : slcv H 1 (strs xs) (some (.int .i64 y)) (some (.int .i64 z)) = some (slS (i - f) (xs.drop f)) := by
  subst hy hz
  have hd : hdOk 1 (xs.map AV.str) = true := by cases xs <;> simp [hdOk, AV.sz]
  simp [slcv, strs, slS, hd, Int.ofNat_le, h, h2]
theorem src_slS (H : Hp) (n : Nat) (ys : List ByteArray) (h : n ≤ ys.length) : srcv H (slS n ys) = some ((ys.take n).map .str) := by simp [srcv, slS, h, List.map_take]
theorem srcF_slS (n : Nat) (ys : List ByteArray) (h : n ≤ ys.length) : srcF (slS n ys) = some ((ys.take n).map .str) := by simp [srcF, slS, h, List.map_take]
theorem rd_slS (H : Hp) (n : Nat) (ys : List ByteArray) (h : n ≤ ys.length) : rd3o false H (slS n ys) = some (strs (ys.take n), []) := by
  simp [rd3o, rd2o, rdpo, rd1o, slS, strs, h, List.map_take, Nat.min_eq_left h]
theorem l_slS (n : Nat) (ys : List ByteArray) : lenv false (slS n ys) = some n := Eq.trans rfl rfl
/-- the lines from one place to another -/
def sub (xs : List ByteArray) (f i : Nat) : List ByteArray := (xs.drop f).take (i - f)
theorem sub_len {xs : List ByteArray} {f i : Nat} (h : f ≤ i) (h2 : i ≤ xs.length) : (sub xs f i).length = i - f := by simp [sub]; omega
/-! ### the difference of two texts -/
def gapL (a b : List ByteArray) (f k i to : Nat) : List HunkL := if f < i ∨ k < to then [⟨f, sub a f i, sub b k to⟩] else []
/-- what is put between matched lines: of line p on -/
def dfo (a b : List ByteArray) : List Int → Nat → Nat → Nat → List HunkL
  | [], _, f, k => gapL a b f k a.length b.length
  | m :: ms, p, f, k => if m < 0 then dfo a b ms (p + 1) f k else gapL a b f k p m.toNat ++ dfo a b ms (p + 1) (p + 1) (m.toNat + 1)
/-- the matches go up, from k on -/
def Asc (N : Nat) : Nat → List Int → Prop
  | _, [] => True
  | k, m :: ms => (m < 0 → Asc N k ms) ∧ (0 ≤ m → k ≤ m.toNat ∧ m.toNat < N ∧ Asc N (m.toNat + 1) ms)
theorem Asc.mono {N : Nat} : ∀ {k k' : Nat} {l : List Int}, Asc N k l → k' ≤ k → Asc N k' l
  | _, _, [], _, _ => trivial
  | _, _, _ :: _, h, hk => ⟨fun hm => (h.1 hm).mono hk, fun hm => ⟨by have := (h.2 hm).1; omega, (h.2 hm).2⟩⟩
theorem mt_asc : ∀ (xs ys : List ByteArray) (j : Nat), Asc (j + ys.length) j (mt xs ys j)
  | [], ys, j => by rw [mt_nil]; trivial
  | x :: xs, [], j => by
    rw [mt_nil2]
    exact ⟨fun _ => mt_asc xs [] j, fun h => by omega⟩
  | x :: xs, y :: ys, j => by
    rw [mt_cons]
    split
    · refine ⟨fun h => by omega, fun _ => ⟨by simp, by simp, ?_⟩⟩
      have := mt_asc xs ys (j + 1)
      rw [show j + 1 + ys.length = j + (y :: ys).length by simp; omega] at this
      simpa using this
    · split
      · exact ⟨fun _ => mt_asc xs (y :: ys) j, fun h => by omega⟩
      · have := mt_asc (x :: xs) ys (j + 1)
        rw [show j + 1 + ys.length = j + (y :: ys).length by simp; omega] at this
        exact this.mono (Nat.le_succ j)
termination_by a b => a.length + b.length
theorem gapL_len (a b : List ByteArray) (f k i to : Nat) : (gapL a b f k i to).length ≤ 1 := by
  unfold gapL
  split <;> simp
theorem gapL_ok (a b : List ByteArray) (f k i to : Nat) : ∀ x ∈ gapL a b f k i to, x.less.length ≤ a.length ∧ x.more.length ≤ b.length := by
  intro x hx
  unfold gapL at hx
  split at hx
  · obtain rfl := List.mem_singleton.1 hx
    simp only [sub, List.length_take, List.length_drop]
    omega
  · cases hx
theorem dfo_len (a b : List ByteArray) : ∀ (l : List Int) (p f k : Nat), (dfo a b l p f k).length ≤ l.length + 1
  | [], p, f, k => gapL_len _ _ _ _ _ _
  | m :: ms, p, f, k => by
    simp only [dfo]
    split
    · have := dfo_len a b ms (p + 1) f k
      simp only [List.length_cons]
      omega
    · have := dfo_len a b ms (p + 1) (p + 1) (m.toNat + 1)
      have := gapL_len a b f k p m.toNat
      simp only [List.length_cons, List.length_append]
      omega
theorem dfo_ok (a b : List ByteArray) : ∀ (l : List Int) (p f k : Nat), ∀ x ∈ dfo a b l p f k, x.less.length ≤ a.length ∧ x.more.length ≤ b.length
  | [], p, f, k => gapL_ok _ _ _ _ _ _
  | m :: ms, p, f, k => by
    simp only [dfo]
    split
    · exact dfo_ok a b ms (p + 1) f k
    · intro x hx
      rcases List.mem_append.1 hx with hx | hx
      · exact gapL_ok _ _ _ _ _ _ x hx
      · exact dfo_ok a b ms _ _ _ x hx
def diffL (a b : List ByteArray) : List HunkL := dfo a b (mt a b 0) 0 0 0
def diffOf (a b : List ByteArray) : List HunkL := if textOk a = true ∧ textOk b = true then diffL a b else []
theorem diffOf_ok (a b : List ByteArray) : (diffOf a b).length ≤ 1000000 ∧ ∀ x ∈ diffOf a b, x.less.length ≤ 1000000 ∧ x.more.length ≤ 1000000 := by
  unfold diffOf
  split
  · rename_i h
    have h1 := textOk_len h.1
    have h2 := textOk_len h.2
    have h3 := dfo_len a b (mt a b 0) 0 0 0
    rw [mt_len] at h3
    refine ⟨by unfold diffL; omega, fun x hx => ?_⟩
    have := dfo_ok a b (mt a b 0) 0 0 0 x hx
    omega
  · simp
end Go.AVM
