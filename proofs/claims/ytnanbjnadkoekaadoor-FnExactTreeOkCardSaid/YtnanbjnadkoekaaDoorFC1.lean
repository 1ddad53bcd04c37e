/- Hunks: what the law's helpers give. -/
import Derived.Test.YtnanbjnadkoekaaDoorVW
import Derived.Test.YtnanbjnadkoekaaDoorFB3
set_option linter.unusedSimpArgs false
set_option linter.unusedVariables false
namespace Go.AVM
def strsF (xs : List ByteArray) : AV := .lsl none xs.length ((roomy xs).map .str)
theorem IsStr.wk {lo hi : Nat} {xs : List ByteArray} {r : AV} (h : IsStr lo hi xs r) : Wk r (strs xs) := by
  rcases h with ⟨rfl, rfl⟩ | ⟨g, _, _, rfl⟩
  · exact .emp
  · refine .lsl _ _ _ _ (by simp) (by simp [roomy]) fun i x y hx hy => ?_
    rw [List.getElem?_map] at hx hy
    obtain ⟨z, hz, rfl⟩ := Option.map_eq_some_iff.1 hy
    have hlt := (List.getElem?_eq_some_iff.1 hz).1
    unfold roomy at hx
    rw [List.getElem?_append_left hlt, hz] at hx
    obtain rfl := Option.some.inj hx
    exact .refl _
theorem IsStr.tin {lo hi : Nat} {xs : List ByteArray} {r : AV} (h : IsStr lo hi xs r) : Tin lo hi (tags r) := by
  rcases h with ⟨rfl, rfl⟩ | ⟨g, h1, h2, rfl⟩
  · exact .nil
  · simp only [tags, tagsL_strs]
    exact Tin.nil.cons (by simp) h1 h2
theorem IsStr.mono {lo hi lo' hi' : Nat} {xs : List ByteArray} {r : AV} (h : IsStr lo hi xs r) (h1 : lo' ≤ lo) (h2 : hi ≤ hi') : IsStr lo' hi' xs r :=
  h.imp id fun ⟨g, a, b, c⟩ => ⟨g, by omega, by omega, c⟩
theorem IsStr.fld {lo hi : Nat} {xs : List ByteArray} {r : AV} (h : IsStr lo hi xs r) : r.isAgg = false ∧ r.sz = 1 := by
  rcases h with ⟨rfl, rfl⟩ | ⟨g, h1, h2, rfl⟩ <;> exact ⟨rfl, rfl⟩
theorem pf_strs {fl : Bool} (xs : List ByteArray) : Pf fl (strs xs) := .lsl _ _ (by simp) (by simp)
theorem pf_strsF (xs : List ByteArray) : Pf true (strsF xs) := .lsl _ _ (by simp) (by simp [roomy])
structure HunkL where
  at_ : Int
  less : List ByteArray
  more : List ByteArray
  deriving DecidableEq
def hunkV (h : HunkL) : AV := .agg [.int .i64 h.at_, strs h.less, strs h.more]
abbrev hunksV (hs : List HunkL) : AV := lv hunkV hs
def hunkF (h : HunkL) : AV := .agg [.int .i64 h.at_, strsF h.less, strsF h.more]
def fillH : AV := .agg [.int .i64 (-7000000000000000101), strs [spare], strs [spare]]
def wfS (xs : List ByteArray) : Prop := xs.length ≤ 9223372036854775807 ∧ ∀ s ∈ xs, s.size ≤ 9223372036854775807
def wfH (h : HunkL) : Prop := wfS h.less ∧ wfS h.more
def okH (h : HunkL) : Prop := okL h.less ∧ okL h.more
def wfHs (hs : List HunkL) : Prop := hs.length ≤ 9223372036854775807 ∧ ∀ h ∈ hs, wfH h
def okHs (hs : List HunkL) : Prop := hs.length ≤ 1000000 ∧ ∀ h ∈ hs, okH h
theorem pl_hunk {fl : Bool} (h : HunkL) : Pl fl (hunkV h) := .agg _ fun g hg => by
  simp at hg
  rcases hg with rfl | rfl | rfl
  · exact .int _ _
  · exact pf_strs _
  · exact pf_strs _
theorem pl_hunkF (h : HunkL) : Pl true (hunkF h) := .agg _ fun g hg => by
  simp at hg
  rcases hg with rfl | rfl | rfl
  · exact .int _ _
  · exact pf_strsF _
  · exact pf_strsF _
theorem wk_l3 {a b c a' b' c' : AV} (h1 : Wk a a') (h2 : Wk b b') (h3 : Wk c c') : Wk (.agg [a, b, c]) (.agg [a', b', c']) := by
  refine .agg _ _ rfl fun i x y hx hy => ?_
  rcases i with _ | _ | _ | i
  · simp at hx hy; subst hx hy; exact h1
  · simp at hx hy; subst hx hy; exact h2
  · simp at hx hy; subst hx hy; exact h3
  · simp at hx

theorem rd_hunk (H : Hp) (h : HunkL) : rd3o false H (hunkV h) = some (hunkV h, []) := by
  have h1 : (h.less.map AV.str).take h.less.length = h.less.map .str := List.take_of_length_le (by simp)
  have h2 : (h.more.map AV.str).take h.more.length = h.more.map .str := List.take_of_length_le (by simp)
  simp [hunkV, strs, rd3o, rd2o, rdpo, rdso, rd1o, h1, h2]
theorem rd_hunkF (H : Hp) (h : HunkL) : rd3o true H (hunkF h) = some (hunkF h, []) := by
  simp [hunkF, strsF, rd3o, rd2o, rdpo, rdso, rd1o]
theorem el_hunk : El 3 hunkV := ⟨fun x => ⟨_, rfl, rfl⟩, rd_hunk⟩
/-- a hunk that toHunk has made -/
def IsHunk (lo hi : Nat) (h : HunkL) (bare : Bool) (r : AV) : Prop := ∃ l1 l2 m1 m2, r = .agg [.int .i64 h.at_, l1, l2] ∧ lo ≤ m1 ∧ m1 ≤ m2 ∧ m2 ≤ hi ∧ IsStr lo m1 h.less l1 ∧ IsStr m2 hi h.more l2 ∧ (bare = false → Wk l1 (strsF h.less) ∧ Wk l2 (strsF h.more))
theorem IsHunk.wk {lo hi : Nat} {h : HunkL} {bare : Bool} {r : AV} (hr : IsHunk lo hi h bare r) : Wk r (hunkV h) := by
  obtain ⟨l1, l2, m1, m2, rfl, _, _, _, q1, q2, _⟩ := hr
  exact wk_l3 (.refl _) q1.wk q2.wk
theorem IsHunk.wkF {lo hi : Nat} {h : HunkL} {r : AV} (hr : IsHunk lo hi h false r) : Wk r (hunkF h) := by
  obtain ⟨l1, l2, m1, m2, rfl, _, _, _, q1, q2, q3⟩ := hr
  exact wk_l3 (.refl _) (q3 rfl).1 (q3 rfl).2
theorem IsHunk.tin {lo hi : Nat} {h : HunkL} {bare : Bool} {r : AV} (hr : IsHunk lo hi h bare r) : Tin lo hi (tags r) := by
  obtain ⟨l1, l2, m1, m2, rfl, h1, h2, h3, q1, q2, _⟩ := hr
  simp only [tags, tagsL, List.nil_append, List.append_nil]
  exact q1.tin.app q2.tin h2 (by omega) (by omega)
theorem IsHunk.agg {lo hi : Nat} {h : HunkL} {bare : Bool} {r : AV} (hr : IsHunk lo hi h bare r) : ∃ fs, r = .agg fs ∧ fs.length = 3 := by
  obtain ⟨l1, l2, m1, m2, rfl, _⟩ := hr
  exact ⟨_, rfl, rfl⟩
def FlH (r : AV) : Prop := ∃ b1 b2 : Nat, r = .agg [.int .i64 (-7000000000000000101), .lsl (some (b1, 1)) 1 ([spare].map .str), .lsl (some (b2, 1)) 1 ([spare].map .str)]
theorem FlH.wk {r : AV} (h : FlH r) : Wk r fillH := by
  obtain ⟨b1, b2, rfl⟩ := h
  exact wk_l3 (.refl _) (Wk.strip _ _ _ (by simp)) (Wk.strip _ _ _ (by simp))
def fillL : HunkL := ⟨-7000000000000000101, [spare], [spare]⟩
theorem eqStrs (xs ys : List ByteArray) (h : xs.length ≤ 10000000) : OK Go.Proofs.Tryd.prog 24 [strs xs, strs ys] (fun _ _ r => r = .bool (decide (xs = ys))) := s49 xs ys h
end Go.AVM
