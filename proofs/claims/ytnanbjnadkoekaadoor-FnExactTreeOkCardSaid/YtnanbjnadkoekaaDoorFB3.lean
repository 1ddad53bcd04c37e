/- DiffMany: the reference's, the program's, the law. -/
import Derived.Test.YtnanbjnadkoekaaDoorFB2
set_option linter.unusedSimpArgs false
set_option linter.unusedVariables false
namespace Go.AVM
theorem textOk_len {xs : List ByteArray} (h : textOk xs = true) : xs.length ≤ 10 := by
  simp [textOk] at h
  exact h.2
theorem OK.weak {P : Program} {f : FuncId} {args : List AV} {R R' : Nat → Nat → AV → Prop} (h : OK P f args R) (hr : ∀ lo hi r, R lo hi r → R' lo hi r) : OK P f args R' :=
  h.imp (fun h => ⟨h.1, fun w S vs hS hvs => (h.2 w S vs hS hvs).mono fun _ _ ⟨v, r, hi, h1, h2, h3, h4, h5⟩ => ⟨v, r, hi, h1, h2, h3, hr _ _ _ h4, h5⟩⟩) fun h w S vs hS hvs => let ⟨v, r, h1, h2, h3, h4⟩ := h w S vs hS hvs; ⟨v, r, h1, h2, hr _ _ _ h3, h4⟩
theorem OKM.weak {P : Program} {f : FuncId} {args : List AV} {H0 : Hp} {R R' : Nat → Nat → AV → Hp → Prop} (h : OKM P f args H0 R) (hr : ∀ lo hi r H', R lo hi r H' → R' lo hi r H') : OKM P f args H0 R' :=
  ⟨h.1, fun w S vs hS hvs hb hi => (h.2 w S vs hS hvs hb hi).mono fun _ _ ⟨v, r, hi, H', h1, h2, h3, h4, h5⟩ => ⟨v, r, hi, H', h1, h2, h3, hr _ _ _ _ h4, h5⟩⟩
/-- a list that toStringS has made -/
def IsStr (lo hi : Nat) (xs : List ByteArray) (r : AV) : Prop := (xs = [] ∧ r = .emp) ∨ ∃ g, lo ≤ g ∧ g < hi ∧ r = .lsl (some (g, 1)) xs.length ((roomy xs).map .str)
theorem IsStr.rd {lo hi : Nat} {xs : List ByteArray} {r : AV} (h : IsStr lo hi xs r) (H : Hp) : rd3o false H r = some (strs xs, []) := by
  rcases h with ⟨rfl, rfl⟩ | ⟨g, _, _, rfl⟩
  · exact rd_emp H
  · exact rd_roomy H _ xs
theorem IsStr.res {lo hi : Nat} {xs : List ByteArray} {r : AV} (h : IsStr lo hi xs r) (d lo' hi' : Nat) (ks : List Nat) (E : Env) (H : Hp) (K : Env → Hp → Nat → Prop) : bres false d lo' hi' E H ks r K = K (upd E d r) (frz H ks) hi' := by
  rcases h with ⟨rfl, rfl⟩ | ⟨g, _, _, rfl⟩
  · exact r_emp ..
  · exact r_lsl ..
theorem s_toStringS (xs : List ByteArray) (b : Bool) (h : okL xs) : OK Go.Proofs.Tryd.prog 71 [strs xs, .bool b] (fun lo hi r => IsStr lo hi xs r ∧ (b = false → ∃ g, lo ≤ g ∧ g < hi ∧ r = .lsl (some (g, 1)) xs.length ((roomy xs).map .str))) :=
  (s17 xs b h).weak fun lo hi r hr => by
    by_cases hc : b = true ∧ xs = []
    · rw [if_pos hc] at hr
      exact ⟨.inl ⟨hc.2, hr⟩, fun hb => by rw [hb] at hc; cases hc.1⟩
    · rw [if_neg hc] at hr
      exact ⟨.inr hr, fun _ => hr⟩
def dm (xs ys : List ByteArray) : Int := if textOk xs = true ∧ textOk ys = true then (xs.length + ys.length : Int) - 2 * (lc xs ys : Int) else -1
theorem s15' (xs : List ByteArray) (k : Nat) (hk : k ≤ 1000000) (h : xs.length ≤ 9223372036854775807 ∧ ∀ s ∈ xs, s.size ≤ 9223372036854775807) :
    OK Go.Proofs.Tryd.prog 69 [strs xs, .int .i64 k] (fun _ _ r => ∃ i : Int, r = .int .i64 i ∧ (0 ≤ i → okL xs ∧ ∃ k' : Nat, i = k' ∧ k' ≤ k)) :=
  (s15 xs k hk h).weak fun lo hi r ⟨i, hr, hi⟩ => ⟨i, hr, fun h0 => ⟨okL_of hk h0 (hi h0), i.toNat, by omega, by have := hi h0; omega⟩⟩
theorem s19' (xs : List ByteArray) (h : okL xs) : OK Go.Proofs.Tryd.prog 75 [.lsl none xs.length ((roomy xs).map .str), .lsl none xs.length ((roomy xs).map .str)] (fun _ _ r => r = .bool true) :=
  (s19 xs.length (roomy xs) (roomy xs) h.1 (roomy_len xs) (roomy_len xs)).weak fun lo hi r hr => by simpa using hr

end Go.AVM
