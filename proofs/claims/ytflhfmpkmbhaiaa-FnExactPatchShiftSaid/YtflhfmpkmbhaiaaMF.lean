/- Functions of seat A: what each gives. -/
import Derived.Test.YtflhfmpkmbhaiaaG
import Derived.Test.YtflhfmpkmbhaiaaMI
set_option linter.unusedSimpArgs false
namespace Go.AVM
def okL (xs : List ByteArray) : Prop := xs.length ≤ 1000000 ∧ ∀ s ∈ xs, s.size ≤ 1000000

def charOk (c : UInt8) : Bool := decide (32 ≤ c.toNat ∧ c.toNat ≤ 126)
def lineOk (s : ByteArray) : Bool := s.data.toList.all charOk && decide (s.size ≤ 12)
theorem lineOk_no {s : ByteArray} {i : Nat} (h : i < s.size) (hc : charOk s[i] = false) : lineOk s = false := by
  have : ¬ (s.data.toList.all charOk = true) := fun h' => by
    have := List.all_eq_true.1 h' s[i] (by rw [Array.mem_toList_iff]; exact Array.getElem_mem h)
    rw [hc] at this
    cases this
  simp [lineOk, this]
theorem lineOk_yes {s : ByteArray} (hc : ∀ j, (h : j < s.size) → charOk s[j] = true) : lineOk s = decide (s.size ≤ 12) := by
  have : s.data.toList.all charOk = true := List.all_eq_true.2 fun x hx => by
    obtain ⟨j, hj, rfl⟩ := Array.getElem_of_mem (Array.mem_toList_iff.1 hx)
    exact hc j hj
  simp [lineOk, this]
theorem s57 (s : ByteArray) (hs : s.size ≤ 1000000) : OK Go.Proofs.Try.prog 54 [.str s] (fun _ _ r => r = .bool (lineOk s)) := by
  refine fn_ok k54 rfl ?_
  generalize OK Go.Proofs.Try.prog = L
  intro lo
  simp -dsimp only [↓SD, SP, ↓reduceIte, Nat.reduceEqDiff, ini, frz, rdAo, rd3o, rd2o, rdpo, rd1o, fnv, intv, VOp.dst, getRo, solEo, solo, solo1, allsz, List.all_cons, List.all_nil, Bool.and_true, beq_self_eq_true, List.length_cons, List.length_nil, Nat.zero_add, srcv, Nat.le_refl, List.take_succ_cons, List.take_zero, and_self, if_true, Nat.reduceAdd, Nat.reduceLT, eq_self, c54]
  refine loop_rule (fun m E H n => ∃ i : Nat, m + i = s.size ∧ E 0 = .str s ∧ E 5 = .int .i64 s.size ∧ E 6 = .int .i64 i ∧ ∀ j, (h : j < s.size) → j < i → charOk s[j] = true)
    (fun e E H n => (e = .exit 0 ∧ E 0 = .str s ∧ lineOk s = decide (s.size ≤ 12)) ∨ (e = .ret ∧ E 2 = .bool (lineOk s))) s.size ⟨0, rfl, rfl, rfl, rfl, fun j h h' => by omega⟩ ?_ ?_
  · rintro e E H n (⟨rfl, h0, h1⟩ | ⟨rfl, h2⟩)
    · simp -dsimp only [↓SD, SP, ↓reduceIte, Nat.reduceEqDiff, ini, frz, rdAo, rd3o, rd2o, rdpo, rd1o, fnv, intv, VOp.dst, getRo, solEo, solo, solo1, allsz, List.all_cons, List.all_nil, Bool.and_true, beq_self_eq_true, List.length_cons, List.length_nil, Nat.zero_add, srcv, Nat.le_refl, List.take_succ_cons, List.take_zero, and_self, if_true, Nat.reduceAdd, Nat.reduceLT, eq_self, h0, h1, Int.ofNat_le, show (12 : Int) = ((12 : Nat) : Int) from rfl]
    · simp -dsimp only [↓SD, SP, ↓reduceIte, Nat.reduceEqDiff, ini, frz, rdAo, rd3o, rd2o, rdpo, rd1o, fnv, intv, VOp.dst, getRo, solEo, solo, solo1, allsz, List.all_cons, List.all_nil, Bool.and_true, beq_self_eq_true, List.length_cons, List.length_nil, Nat.zero_add, srcv, Nat.le_refl, List.take_succ_cons, List.take_zero, and_self, if_true, Nat.reduceAdd, Nat.reduceLT, eq_self, h2]
  · rintro m E H n Q K ⟨i, hm, h0, h5, h6, hp⟩ hQ hK
    by_cases hi : i < s.size
    · have key : charOk s[i] = decide (32 ≤ s[i].toNat ∧ s[i].toNat ≤ 126) := rfl
      by_cases ha : (s[i].toNat : Int) < 32
      · simp -dsimp only [↓SD, SP, ↓reduceIte, Nat.reduceEqDiff, ini, frz, rdAo, rd3o, rd2o, rdpo, rd1o, fnv, intv, VOp.dst, getRo, solEo, solo, solo1, allsz, List.all_cons, List.all_nil, Bool.and_true, beq_self_eq_true, List.length_cons, List.length_nil, Nat.zero_add, srcv, Nat.le_refl, List.take_succ_cons, List.take_zero, and_self, if_true, Nat.reduceAdd, Nat.reduceLT, eq_self, h0, h5, h6, x_str _ _ hi, Int.ofNat_lt, hi, ha]
        refine hQ _ _ _ _ (.inr ⟨rfl, ?_⟩)
        simp -dsimp only [↓SD, SP, ↓reduceIte, Nat.reduceEqDiff, ini, frz, rdAo, rd3o, rd2o, rdpo, rd1o, fnv, intv, VOp.dst, getRo, solEo, solo, solo1, allsz, List.all_cons, List.all_nil, Bool.and_true, beq_self_eq_true, List.length_cons, List.length_nil, Nat.zero_add, srcv, Nat.le_refl, List.take_succ_cons, List.take_zero, and_self, if_true, Nat.reduceAdd, Nat.reduceLT, eq_self, lineOk_no hi (by rw [key]; simp; omega)]
      · by_cases hb : (126 : Int) < s[i].toNat
        · simp -dsimp only [↓SD, SP, ↓reduceIte, Nat.reduceEqDiff, ini, frz, rdAo, rd3o, rd2o, rdpo, rd1o, fnv, intv, VOp.dst, getRo, solEo, solo, solo1, allsz, List.all_cons, List.all_nil, Bool.and_true, beq_self_eq_true, List.length_cons, List.length_nil, Nat.zero_add, srcv, Nat.le_refl, List.take_succ_cons, List.take_zero, and_self, if_true, Nat.reduceAdd, Nat.reduceLT, eq_self, h0, h5, h6, x_str _ _ hi, Int.ofNat_lt, hi, ha, hb]
          refine hQ _ _ _ _ (.inr ⟨rfl, ?_⟩)
          simp -dsimp only [↓SD, SP, ↓reduceIte, Nat.reduceEqDiff, ini, frz, rdAo, rd3o, rd2o, rdpo, rd1o, fnv, intv, VOp.dst, getRo, solEo, solo, solo1, allsz, List.all_cons, List.all_nil, Bool.and_true, beq_self_eq_true, List.length_cons, List.length_nil, Nat.zero_add, srcv, Nat.le_refl, List.take_succ_cons, List.take_zero, and_self, if_true, Nat.reduceAdd, Nat.reduceLT, eq_self, lineOk_no hi (by rw [key]; simp; omega)]
        · simp -dsimp only [↓SD, SP, ↓reduceIte, Nat.reduceEqDiff, ini, frz, rdAo, rd3o, rd2o, rdpo, rd1o, fnv, intv, VOp.dst, getRo, solEo, solo, solo1, allsz, List.all_cons, List.all_nil, Bool.and_true, beq_self_eq_true, List.length_cons, List.length_nil, Nat.zero_add, srcv, Nat.le_refl, List.take_succ_cons, List.take_zero, and_self, if_true, Nat.reduceAdd, Nat.reduceLT, eq_self, h0, h5, h6, x_str _ _ hi, Int.ofNat_lt, hi, ha, hb, wrap64 ((i : Int) + 1) (by omega)]
          refine hK (m - 1) _ _ _ (by omega) ⟨i + 1, by omega, ?_, ?_, ?_, fun j h hj => ?_⟩
          · simp -dsimp only [↓SD, SP, ↓reduceIte, Nat.reduceEqDiff, ini, frz, rdAo, rd3o, rd2o, rdpo, rd1o, fnv, intv, VOp.dst, getRo, solEo, solo, solo1, allsz, List.all_cons, List.all_nil, Bool.and_true, beq_self_eq_true, List.length_cons, List.length_nil, Nat.zero_add, srcv, Nat.le_refl, List.take_succ_cons, List.take_zero, and_self, if_true, Nat.reduceAdd, Nat.reduceLT, eq_self, h0]
          · simp -dsimp only [↓SD, SP, ↓reduceIte, Nat.reduceEqDiff, ini, frz, rdAo, rd3o, rd2o, rdpo, rd1o, fnv, intv, VOp.dst, getRo, solEo, solo, solo1, allsz, List.all_cons, List.all_nil, Bool.and_true, beq_self_eq_true, List.length_cons, List.length_nil, Nat.zero_add, srcv, Nat.le_refl, List.take_succ_cons, List.take_zero, and_self, if_true, Nat.reduceAdd, Nat.reduceLT, eq_self, h5]
          · simp -dsimp only [↓SD, SP, ↓reduceIte, Nat.reduceEqDiff, ini, frz, rdAo, rd3o, rd2o, rdpo, rd1o, fnv, intv, VOp.dst, getRo, solEo, solo, solo1, allsz, List.all_cons, List.all_nil, Bool.and_true, beq_self_eq_true, List.length_cons, List.length_nil, Nat.zero_add, srcv, Nat.le_refl, List.take_succ_cons, List.take_zero, and_self, if_true, Nat.reduceAdd, Nat.reduceLT, eq_self, Int.natCast_add, Int.natCast_one]
          · rcases Nat.lt_or_ge j i with h' | h'
            · exact hp j h h'
            · obtain rfl : j = i := by omega
              rw [key]; simp; omega
    · simp -dsimp only [↓SD, SP, ↓reduceIte, Nat.reduceEqDiff, ini, frz, rdAo, rd3o, rd2o, rdpo, rd1o, fnv, intv, VOp.dst, getRo, solEo, solo, solo1, allsz, List.all_cons, List.all_nil, Bool.and_true, beq_self_eq_true, List.length_cons, List.length_nil, Nat.zero_add, srcv, Nat.le_refl, List.take_succ_cons, List.take_zero, and_self, if_true, Nat.reduceAdd, Nat.reduceLT, eq_self, h0, h5, h6, Int.ofNat_lt, hi]
      exact hQ _ _ _ _ (.inl ⟨rfl, h0, lineOk_yes fun j h => hp j h (by omega)⟩)

/-- impl.TextOk$1 -/
theorem s56 (s : ByteArray) (hs : s.size ≤ 1000000) : OK Go.Proofs.Try.prog 53 [.str s] (fun _ _ r => r = .bool (!lineOk s)) := by
  refine fn_ok k53 rfl ?_
  have h57 := s57 s hs
  generalize OK Go.Proofs.Try.prog = L at h57 ⊢
  intro lo
  simp -dsimp only [↓SD, SP, ↓reduceIte, Nat.reduceEqDiff, ini, frz, rdAo, rd3o, rd2o, rdpo, rd1o, fnv, intv, VOp.dst, getRo, solEo, solo, solo1, allsz, List.all_cons, List.all_nil, Bool.and_true, beq_self_eq_true, List.length_cons, List.length_nil, Nat.zero_add, srcv, Nat.le_refl, List.take_succ_cons, List.take_zero, and_self, if_true, Nat.reduceAdd, Nat.reduceLT, eq_self, c53]
  refine call_rule h57 ?_
  rintro lo hi r h1 h2 rfl
  simp -dsimp only [↓SD, SP, ↓reduceIte, Nat.reduceEqDiff, ini, frz, rdAo, rd3o, rd2o, rdpo, rd1o, fnv, intv, VOp.dst, getRo, solEo, solo, solo1, allsz, List.all_cons, List.all_nil, Bool.and_true, beq_self_eq_true, List.length_cons, List.length_nil, Nat.zero_add, srcv, Nat.le_refl, List.take_succ_cons, List.take_zero, and_self, if_true, Nat.reduceAdd, Nat.reduceLT, eq_self]

theorem s54 (k : Nat) (hk : k ≤ 1000000) : OK Go.Proofs.Try.prog 22 [.int .i64 k] (fun _ _ r => r = .int .i64 (rm k)) := by
  refine fn_ok k22 rfl ?_
  generalize OK Go.Proofs.Try.prog = L
  intro lo
  have e6 : ((k : Int)).tmod 6 = ((k % 6 : Nat) : Int) := by rw [Int.tmod_eq_emod_of_nonneg (by omega)]; rfl
  have e3 : ((k : Int)).tmod 3 = ((k % 3 : Nat) : Int) := by rw [Int.tmod_eq_emod_of_nonneg (by omega)]; rfl
  have v6 := v_rem .i64 (k : Int) 6 (by decide)
  have v3 := v_rem .i64 (k : Int) 3 (by decide)
  by_cases h5 : ((k % 6 : Nat) : Int) = 5
  · simp -dsimp only [↓SD, SP, ↓reduceIte, Nat.reduceEqDiff, ini, frz, rdAo, rd3o, rd2o, rdpo, rd1o, fnv, intv, VOp.dst, getRo, solEo, solo, solo1, allsz, List.all_cons, List.all_nil, Bool.and_true, beq_self_eq_true, List.length_cons, List.length_nil, Nat.zero_add, srcv, Nat.le_refl, List.take_succ_cons, List.take_zero, and_self, if_true, Nat.reduceAdd, Nat.reduceLT, eq_self, c22, v6, e6, h5]
    simp [rm, show k % 6 = 5 by omega]
  · by_cases h0 : ((k % 3 : Nat) : Int) = 0
    · simp -dsimp only [↓SD, SP, ↓reduceIte, Nat.reduceEqDiff, ini, frz, rdAo, rd3o, rd2o, rdpo, rd1o, fnv, intv, VOp.dst, getRo, solEo, solo, solo1, allsz, List.all_cons, List.all_nil, Bool.and_true, beq_self_eq_true, List.length_cons, List.length_nil, Nat.zero_add, srcv, Nat.le_refl, List.take_succ_cons, List.take_zero, and_self, if_true, Nat.reduceAdd, Nat.reduceLT, eq_self, c22, v6, e6, h5, v3, e3, h0]
      simp [rm, show ¬ k % 6 = 5 by omega, show k % 3 = 0 by omega]
    · simp -dsimp only [↓SD, SP, ↓reduceIte, Nat.reduceEqDiff, ini, frz, rdAo, rd3o, rd2o, rdpo, rd1o, fnv, intv, VOp.dst, getRo, solEo, solo, solo1, allsz, List.all_cons, List.all_nil, Bool.and_true, beq_self_eq_true, List.length_cons, List.length_nil, Nat.zero_add, srcv, Nat.le_refl, List.take_succ_cons, List.take_zero, and_self, if_true, Nat.reduceAdd, Nat.reduceLT, eq_self, c22, v6, e6, h5, v3, e3, h0]
      simp [rm, show ¬ k % 6 = 5 by omega, show ¬ k % 3 = 0 by omega]

/-- slices.IndexFunc -/
theorem s83 (p : ByteArray → Bool) (f : Nat) (xs : List ByteArray) (h : okL xs) (hf : ∀ s ∈ xs, OK Go.Proofs.Try.prog f [.str s] (fun _ _ r => r = .bool (p s))) :
    OK Go.Proofs.Try.prog 57 [strs xs, .fn f []] (fun _ _ r => ∃ k : Int, r = .int .i64 k ∧ decide (0 ≤ k) = xs.any p) := by
  refine fn_ok k57 rfl ?_
  generalize OK Go.Proofs.Try.prog = L at hf ⊢
  intro lo
  simp -dsimp only [↓SD, SP, ↓reduceIte, Nat.reduceEqDiff, ini, frz, rdAo, rd3o, rd2o, rdpo, rd1o, fnv, intv, VOp.dst, getRo, solEo, solo, solo1, allsz, List.all_cons, List.all_nil, Bool.and_true, beq_self_eq_true, List.length_cons, List.length_nil, Nat.zero_add, srcv, Nat.le_refl, List.take_succ_cons, List.take_zero, and_self, if_true, Nat.reduceAdd, Nat.reduceLT, eq_self, c57, l_strs]
  refine loop_rule (fun m E H n => ∃ i : Nat, m + i = xs.length ∧ E 0 = strs xs ∧ E 1 = .fn f [] ∧ E 7 = .int .i64 xs.length ∧ E 8 = .int .i64 i ∧ (xs.take i).any p = false)
    (fun e E H n => (e = .exit 0 ∧ xs.any p = false) ∨ (e = .ret ∧ ∃ k : Int, E 4 = .int .i64 k ∧ decide (0 ≤ k) = xs.any p)) xs.length ⟨0, rfl, rfl, rfl, rfl, rfl, rfl⟩ ?_ ?_
  · rintro e E H n (⟨rfl, h0⟩ | ⟨rfl, k, h2, h3⟩)
    · simp -dsimp only [↓SD, SP, ↓reduceIte, Nat.reduceEqDiff, ini, frz, rdAo, rd3o, rd2o, rdpo, rd1o, fnv, intv, VOp.dst, getRo, solEo, solo, solo1, allsz, List.all_cons, List.all_nil, Bool.and_true, beq_self_eq_true, List.length_cons, List.length_nil, Nat.zero_add, srcv, Nat.le_refl, List.take_succ_cons, List.take_zero, and_self, if_true, Nat.reduceAdd, Nat.reduceLT, eq_self]
      exact ⟨_, rfl, by simp [h0]⟩
    · simp -dsimp only [↓SD, SP, ↓reduceIte, Nat.reduceEqDiff, ini, frz, rdAo, rd3o, rd2o, rdpo, rd1o, fnv, intv, VOp.dst, getRo, solEo, solo, solo1, allsz, List.all_cons, List.all_nil, Bool.and_true, beq_self_eq_true, List.length_cons, List.length_nil, Nat.zero_add, srcv, Nat.le_refl, List.take_succ_cons, List.take_zero, and_self, if_true, Nat.reduceAdd, Nat.reduceLT, eq_self, h2]
      exact ⟨_, rfl, h3⟩
  · rintro m E H n Q K ⟨i, hm, h0, h1, h7, h8, hp⟩ hQ hK
    by_cases hi : i < xs.length
    · simp -dsimp only [↓SD, SP, ↓reduceIte, Nat.reduceEqDiff, ini, frz, rdAo, rd3o, rd2o, rdpo, rd1o, fnv, intv, VOp.dst, getRo, solEo, solo, solo1, allsz, List.all_cons, List.all_nil, Bool.and_true, beq_self_eq_true, List.length_cons, List.length_nil, Nat.zero_add, srcv, Nat.le_refl, List.take_succ_cons, List.take_zero, and_self, if_true, Nat.reduceAdd, Nat.reduceLT, eq_self, h0, h1, h7, h8, Int.ofNat_lt, hi, x_strs _ _ hi]
      refine call_rule (hf xs[i] (List.getElem_mem hi)) ?_
      rintro lo' hi' r g1 g2 rfl
      have hk := h.1
      have hany : (xs.take (i + 1)).any p = p xs[i] := by
        rw [List.take_succ_eq_append_getElem hi, List.any_append, hp]
        simp
      cases hb : p xs[i]
      · simp -dsimp only [↓SD, SP, ↓reduceIte, Nat.reduceEqDiff, ini, frz, rdAo, rd3o, rd2o, rdpo, rd1o, fnv, intv, VOp.dst, getRo, solEo, solo, solo1, allsz, List.all_cons, List.all_nil, Bool.and_true, beq_self_eq_true, List.length_cons, List.length_nil, Nat.zero_add, srcv, Nat.le_refl, List.take_succ_cons, List.take_zero, and_self, if_true, Nat.reduceAdd, Nat.reduceLT, eq_self, h0, h1, h7, h8, hb, wrap64 ((i : Int) + 1) (by omega)]
        refine hK (m - 1) _ _ _ (by omega) ⟨i + 1, by omega, ?_, ?_, ?_, ?_, by rw [hany, hb]⟩
        · simp -dsimp only [↓SD, SP, ↓reduceIte, Nat.reduceEqDiff, ini, frz, rdAo, rd3o, rd2o, rdpo, rd1o, fnv, intv, VOp.dst, getRo, solEo, solo, solo1, allsz, List.all_cons, List.all_nil, Bool.and_true, beq_self_eq_true, List.length_cons, List.length_nil, Nat.zero_add, srcv, Nat.le_refl, List.take_succ_cons, List.take_zero, and_self, if_true, Nat.reduceAdd, Nat.reduceLT, eq_self, h0]
        · simp -dsimp only [↓SD, SP, ↓reduceIte, Nat.reduceEqDiff, ini, frz, rdAo, rd3o, rd2o, rdpo, rd1o, fnv, intv, VOp.dst, getRo, solEo, solo, solo1, allsz, List.all_cons, List.all_nil, Bool.and_true, beq_self_eq_true, List.length_cons, List.length_nil, Nat.zero_add, srcv, Nat.le_refl, List.take_succ_cons, List.take_zero, and_self, if_true, Nat.reduceAdd, Nat.reduceLT, eq_self, h1]
        · simp -dsimp only [↓SD, SP, ↓reduceIte, Nat.reduceEqDiff, ini, frz, rdAo, rd3o, rd2o, rdpo, rd1o, fnv, intv, VOp.dst, getRo, solEo, solo, solo1, allsz, List.all_cons, List.all_nil, Bool.and_true, beq_self_eq_true, List.length_cons, List.length_nil, Nat.zero_add, srcv, Nat.le_refl, List.take_succ_cons, List.take_zero, and_self, if_true, Nat.reduceAdd, Nat.reduceLT, eq_self, h7]
        · simp -dsimp only [↓SD, SP, ↓reduceIte, Nat.reduceEqDiff, ini, frz, rdAo, rd3o, rd2o, rdpo, rd1o, fnv, intv, VOp.dst, getRo, solEo, solo, solo1, allsz, List.all_cons, List.all_nil, Bool.and_true, beq_self_eq_true, List.length_cons, List.length_nil, Nat.zero_add, srcv, Nat.le_refl, List.take_succ_cons, List.take_zero, and_self, if_true, Nat.reduceAdd, Nat.reduceLT, eq_self, Int.natCast_add, Int.natCast_one]
      · simp -dsimp only [↓SD, SP, ↓reduceIte, Nat.reduceEqDiff, ini, frz, rdAo, rd3o, rd2o, rdpo, rd1o, fnv, intv, VOp.dst, getRo, solEo, solo, solo1, allsz, List.all_cons, List.all_nil, Bool.and_true, beq_self_eq_true, List.length_cons, List.length_nil, Nat.zero_add, srcv, Nat.le_refl, List.take_succ_cons, List.take_zero, and_self, if_true, Nat.reduceAdd, Nat.reduceLT, eq_self, h0, h1, h7, h8, hb]
        refine hQ _ _ _ _ (.inr ⟨rfl, (i : Int), ?_, ?_⟩)
        · simp -dsimp only [↓SD, SP, ↓reduceIte, Nat.reduceEqDiff, ini, frz, rdAo, rd3o, rd2o, rdpo, rd1o, fnv, intv, VOp.dst, getRo, solEo, solo, solo1, allsz, List.all_cons, List.all_nil, Bool.and_true, beq_self_eq_true, List.length_cons, List.length_nil, Nat.zero_add, srcv, Nat.le_refl, List.take_succ_cons, List.take_zero, and_self, if_true, Nat.reduceAdd, Nat.reduceLT, eq_self, h8]
        · rw [show xs.any p = true from List.any_eq_true.2 ⟨xs[i], List.getElem_mem hi, hb⟩]
          simp
    · simp -dsimp only [↓SD, SP, ↓reduceIte, Nat.reduceEqDiff, ini, frz, rdAo, rd3o, rd2o, rdpo, rd1o, fnv, intv, VOp.dst, getRo, solEo, solo, solo1, allsz, List.all_cons, List.all_nil, Bool.and_true, beq_self_eq_true, List.length_cons, List.length_nil, Nat.zero_add, srcv, Nat.le_refl, List.take_succ_cons, List.take_zero, and_self, if_true, Nat.reduceAdd, Nat.reduceLT, eq_self, h0, h1, h7, h8, Int.ofNat_lt, hi]
      refine hQ _ _ _ _ (.inl ⟨rfl, ?_⟩)
      rw [List.take_of_length_le (by omega)] at hp
      exact hp

def spare : ByteArray := ⟨#[126, 115, 112, 97, 114, 101, 126]⟩
/-- toString's list: the elements, and what lies in the room behind them -/
def roomy (xs : List ByteArray) : List ByteArray := xs ++ List.replicate (rm xs.length) spare
theorem s17 (xs : List ByteArray) (b : Bool) (h : okL xs) : OK Go.Proofs.Try.prog 8 [strs xs, .bool b]
    (fun lo hi r => if b = true ∧ xs = [] then r = .emp else ∃ g, lo ≤ g ∧ g < hi ∧ r = .lsl (some (g, 1)) xs.length ((roomy xs).map .str)) := by
  refine fn_ok k8 rfl ?_
  have h54 := s54 xs.length h.1
  generalize OK Go.Proofs.Try.prog = L at h54 ⊢
  intro lo
  by_cases he : b = true ∧ xs = []
  · obtain ⟨rfl, rfl⟩ := he
    simp -dsimp only [↓SD, SP, ↓reduceIte, Nat.reduceEqDiff, ini, frz, rdAo, rd3o, rd2o, rdpo, rd1o, fnv, intv, VOp.dst, getRo, solEo, solo, solo1, allsz, List.all_cons, List.all_nil, Bool.and_true, beq_self_eq_true, List.length_cons, List.length_nil, Nat.zero_add, srcv, Nat.le_refl, List.take_succ_cons, List.take_zero, and_self, if_true, Nat.reduceAdd, Nat.reduceLT, eq_self, c8, l_strs, List.length_nil, Int.natCast_zero, and_self, and_true]
  · have hl : ¬ (b = true ∧ (xs.length : Int) = 0) := by
      simpa [List.length_eq_zero_iff] using he
    have rest : True := trivial
    simp only [if_neg he]
    have hrm := rm_le xs.length
    have hk := h.1
    have hl' : b = true → ¬ (xs.length : Int) = 0 := fun e h => hl ⟨e, h⟩
    cases b
    · simp -dsimp only [↓SD, SP, ↓reduceIte, Nat.reduceEqDiff, ini, frz, rdAo, rd3o, rd2o, rdpo, rd1o, fnv, intv, VOp.dst, getRo, solEo, solo, solo1, allsz, List.all_cons, List.all_nil, Bool.and_true, beq_self_eq_true, List.length_cons, List.length_nil, Nat.zero_add, srcv, Nat.le_refl, List.take_succ_cons, List.take_zero, and_self, if_true, Nat.reduceAdd, Nat.reduceLT, eq_self, c8, l_strs]
      refine call_rule h54 ?_
      rintro lo' hi r g1 g2 rfl
      simp -dsimp only [↓SD, SP, ↓reduceIte, Nat.reduceEqDiff, ini, frz, rdAo, rd3o, rd2o, rdpo, rd1o, fnv, intv, VOp.dst, getRo, solEo, solo, solo1, allsz, List.all_cons, List.all_nil, Bool.and_true, beq_self_eq_true, List.length_cons, List.length_nil, Nat.zero_add, srcv, Nat.le_refl, List.take_succ_cons, List.take_zero, and_self, if_true, Nat.reduceAdd, Nat.reduceLT, eq_self, wrap64 ((xs.length : Int) + rm xs.length) (by omega)]
      refine mk_at (by omega) ?_
      intro g hg
      simp -dsimp only [↓SD, SP, ↓reduceIte, Nat.reduceEqDiff, ini, frz, rdAo, rd3o, rd2o, rdpo, rd1o, fnv, intv, VOp.dst, getRo, solEo, solo, solo1, allsz, List.all_cons, List.all_nil, Bool.and_true, beq_self_eq_true, List.length_cons, List.length_nil, Nat.zero_add, srcv, Nat.le_refl, List.take_succ_cons, List.take_zero, and_self, if_true, Nat.reduceAdd, Nat.reduceLT, eq_self]
      refine loop_rule (fun m E H n => ∃ i : Nat, m + i = xs.length ∧ E 0 = strs xs ∧ E 5 = .own 20 g 1 (xs.length + rm xs.length) ∧ E 6 = .int .i64 i ∧ n = g + 1 ∧
          H 20 = some ⟨g, 1, (xs.take i ++ List.replicate (m + rm xs.length) (⟨#[]⟩ : ByteArray)).map .str, false, true, true⟩)
        (fun e E H n => e = .exit 0 ∧ E 0 = strs xs ∧ E 5 = .own 20 g 1 (xs.length + rm xs.length) ∧ n = g + 1 ∧ H 20 = some ⟨g, 1, (xs ++ List.replicate (rm xs.length) (⟨#[]⟩ : ByteArray)).map .str, false, true, true⟩)
        xs.length ⟨0, rfl, rfl, ?_, rfl, rfl, ?_⟩ ?_ ?_
      · simp -dsimp only [↓SD, SP, ↓reduceIte, Nat.reduceEqDiff, ini, frz, rdAo, rd3o, rd2o, rdpo, rd1o, fnv, intv, VOp.dst, getRo, solEo, solo, solo1, allsz, List.all_cons, List.all_nil, Bool.and_true, beq_self_eq_true, List.length_cons, List.length_nil, Nat.zero_add, srcv, Nat.le_refl, List.take_succ_cons, List.take_zero, and_self, if_true, Nat.reduceAdd, Nat.reduceLT, eq_self, show ((xs.length : Int) + rm xs.length).toNat = xs.length + rm xs.length by omega]
      · simp -dsimp only [↓SD, SP, ↓reduceIte, Nat.reduceEqDiff, ini, frz, rdAo, rd3o, rd2o, rdpo, rd1o, fnv, intv, VOp.dst, getRo, solEo, solo, solo1, allsz, List.all_cons, List.all_nil, Bool.and_true, beq_self_eq_true, List.length_cons, List.length_nil, Nat.zero_add, srcv, Nat.le_refl, List.take_succ_cons, List.take_zero, and_self, if_true, Nat.reduceAdd, Nat.reduceLT, eq_self, show ((xs.length : Int) + rm xs.length).toNat = xs.length + rm xs.length by omega, List.take_zero, List.map_replicate]
      · rintro e E H n ⟨rfl, h0, h5, rfl, hH⟩
        simp -dsimp only [↓SD, SP, ↓reduceIte, Nat.reduceEqDiff, ini, frz, rdAo, rd3o, rd2o, rdpo, rd1o, fnv, intv, VOp.dst, getRo, solEo, solo, solo1, allsz, List.all_cons, List.all_nil, Bool.and_true, beq_self_eq_true, List.length_cons, List.length_nil, Nat.zero_add, srcv, Nat.le_refl, List.take_succ_cons, List.take_zero, and_self, if_true, Nat.reduceAdd, Nat.reduceLT, eq_self, h0, l_strs]
        refine loop_rule (fun m E H n => ∃ k : Nat, m + k = rm xs.length ∧ E 0 = strs xs ∧ E 5 = .own 20 g 1 (xs.length + rm xs.length) ∧ E 7 = .int .i64 (xs.length + k : Nat) ∧ n = g + 1 ∧
            H 20 = some ⟨g, 1, (xs ++ List.replicate k spare ++ List.replicate m (⟨#[]⟩ : ByteArray)).map .str, false, true, true⟩)
          (fun e E H n => e = .exit 2 ∧ E 0 = strs xs ∧ E 5 = .own 20 g 1 (xs.length + rm xs.length) ∧ n = g + 1 ∧ H 20 = some ⟨g, 1, (roomy xs).map .str, false, true, true⟩)
          (rm xs.length) ⟨0, rfl, ?_, ?_, ?_, rfl, ?_⟩ ?_ ?_
        · simp -dsimp only [↓SD, SP, ↓reduceIte, Nat.reduceEqDiff, ini, frz, rdAo, rd3o, rd2o, rdpo, rd1o, fnv, intv, VOp.dst, getRo, solEo, solo, solo1, allsz, List.all_cons, List.all_nil, Bool.and_true, beq_self_eq_true, List.length_cons, List.length_nil, Nat.zero_add, srcv, Nat.le_refl, List.take_succ_cons, List.take_zero, and_self, if_true, Nat.reduceAdd, Nat.reduceLT, eq_self, h0]
        · simp -dsimp only [↓SD, SP, ↓reduceIte, Nat.reduceEqDiff, ini, frz, rdAo, rd3o, rd2o, rdpo, rd1o, fnv, intv, VOp.dst, getRo, solEo, solo, solo1, allsz, List.all_cons, List.all_nil, Bool.and_true, beq_self_eq_true, List.length_cons, List.length_nil, Nat.zero_add, srcv, Nat.le_refl, List.take_succ_cons, List.take_zero, and_self, if_true, Nat.reduceAdd, Nat.reduceLT, eq_self, h5]
        · simp -dsimp only [↓SD, SP, ↓reduceIte, Nat.reduceEqDiff, ini, frz, rdAo, rd3o, rd2o, rdpo, rd1o, fnv, intv, VOp.dst, getRo, solEo, solo, solo1, allsz, List.all_cons, List.all_nil, Bool.and_true, beq_self_eq_true, List.length_cons, List.length_nil, Nat.zero_add, srcv, Nat.le_refl, List.take_succ_cons, List.take_zero, and_self, if_true, Nat.reduceAdd, Nat.reduceLT, eq_self, Nat.add_zero]
        · simp -dsimp only [↓SD, SP, ↓reduceIte, Nat.reduceEqDiff, ini, frz, rdAo, rd3o, rd2o, rdpo, rd1o, fnv, intv, VOp.dst, getRo, solEo, solo, solo1, allsz, List.all_cons, List.all_nil, Bool.and_true, beq_self_eq_true, List.length_cons, List.length_nil, Nat.zero_add, srcv, Nat.le_refl, List.take_succ_cons, List.take_zero, and_self, if_true, Nat.reduceAdd, Nat.reduceLT, eq_self, hH, List.replicate_zero]
        · rintro e E H n ⟨rfl, h0, h5, rfl, hH⟩
          have hroom : (roomy xs).length = xs.length + rm xs.length := by simp [roomy]
          have hsl : slcv H 1 (.own 20 g 1 (xs.length + rm xs.length)) none (some (.int .i64 xs.length)) = some (.own 20 g 1 xs.length) := by
            simp [slcv, hH, hroom]
          simp -dsimp only [↓SD, SP, ↓reduceIte, Nat.reduceEqDiff, ini, frz, rdAo, rd3o, rd2o, rdpo, rd1o, fnv, intv, VOp.dst, getRo, solEo, solo, solo1, allsz, List.all_cons, List.all_nil, Bool.and_true, beq_self_eq_true, List.length_cons, List.length_nil, Nat.zero_add, srcv, Nat.le_refl, List.take_succ_cons, List.take_zero, and_self, if_true, Nat.reduceAdd, Nat.reduceLT, eq_self, h0, h5, l_strs, hsl, hH, List.length_map, hroom, Nat.le_add_right, and_self]
          exact ⟨g, by omega, by omega, rfl⟩
        · rintro m E H n Q K ⟨k, hm, h0, h5, h7, rfl, hH⟩ hQ hK
          cases m with
          | zero =>
            obtain rfl : k = rm xs.length := by omega
            simp -dsimp only [↓SD, SP, ↓reduceIte, Nat.reduceEqDiff, ini, frz, rdAo, rd3o, rd2o, rdpo, rd1o, fnv, intv, VOp.dst, getRo, solEo, solo, solo1, allsz, List.all_cons, List.all_nil, Bool.and_true, beq_self_eq_true, List.length_cons, List.length_nil, Nat.zero_add, srcv, Nat.le_refl, List.take_succ_cons, List.take_zero, and_self, if_true, Nat.reduceAdd, Nat.reduceLT, eq_self, h0, h5, h7, Int.ofNat_lt, Nat.lt_irrefl]
            refine hQ _ _ _ _ ⟨rfl, h0, h5, rfl, ?_⟩
            rw [hH]
            simp [roomy]
          | succ m =>
            simp -dsimp only [↓SD, SP, ↓reduceIte, Nat.reduceEqDiff, ini, frz, rdAo, rd3o, rd2o, rdpo, rd1o, fnv, intv, VOp.dst, getRo, solEo, solo, solo1, allsz, List.all_cons, List.all_nil, Bool.and_true, beq_self_eq_true, List.length_cons, List.length_nil, Nat.zero_add, srcv, Nat.le_refl, List.take_succ_cons, List.take_zero, and_self, if_true, Nat.reduceAdd, Nat.reduceLT, eq_self, h0, h5, h7, Int.ofNat_lt, show xs.length + k < xs.length + rm xs.length by omega, x_own _ _ _ _ _ (show xs.length + k < xs.length + rm xs.length by omega), st_str (i := xs.length + k) hH (by simp), wrap64 (((xs.length + k : Nat) : Int) + 1) (by omega)]
            refine hK m _ _ _ rfl ⟨k + 1, by omega, ?_, ?_, ?_, rfl, ?_⟩
            · simp -dsimp only [↓SD, SP, ↓reduceIte, Nat.reduceEqDiff, ini, frz, rdAo, rd3o, rd2o, rdpo, rd1o, fnv, intv, VOp.dst, getRo, solEo, solo, solo1, allsz, List.all_cons, List.all_nil, Bool.and_true, beq_self_eq_true, List.length_cons, List.length_nil, Nat.zero_add, srcv, Nat.le_refl, List.take_succ_cons, List.take_zero, and_self, if_true, Nat.reduceAdd, Nat.reduceLT, eq_self, h0]
            · simp -dsimp only [↓SD, SP, ↓reduceIte, Nat.reduceEqDiff, ini, frz, rdAo, rd3o, rd2o, rdpo, rd1o, fnv, intv, VOp.dst, getRo, solEo, solo, solo1, allsz, List.all_cons, List.all_nil, Bool.and_true, beq_self_eq_true, List.length_cons, List.length_nil, Nat.zero_add, srcv, Nat.le_refl, List.take_succ_cons, List.take_zero, and_self, if_true, Nat.reduceAdd, Nat.reduceLT, eq_self, h5]
            · simp -dsimp only [↓SD, SP, ↓reduceIte, Nat.reduceEqDiff, ini, frz, rdAo, rd3o, rd2o, rdpo, rd1o, fnv, intv, VOp.dst, getRo, solEo, solo, solo1, allsz, List.all_cons, List.all_nil, Bool.and_true, beq_self_eq_true, List.length_cons, List.length_nil, Nat.zero_add, srcv, Nat.le_refl, List.take_succ_cons, List.take_zero, and_self, if_true, Nat.reduceAdd, Nat.reduceLT, eq_self, show ((xs.length + k : Nat) : Int) + 1 = ((xs.length + (k + 1) : Nat) : Int) by omega]
            · simp -dsimp only [↓SD, SP, ↓reduceIte, Nat.reduceEqDiff, ini, frz, rdAo, rd3o, rd2o, rdpo, rd1o, fnv, intv, VOp.dst, getRo, solEo, solo, solo1, allsz, List.all_cons, List.all_nil, Bool.and_true, beq_self_eq_true, List.length_cons, List.length_nil, Nat.zero_add, srcv, Nat.le_refl, List.take_succ_cons, List.take_zero, and_self, if_true, Nat.reduceAdd, Nat.reduceLT, eq_self]
              rw [← set_rep]
              rfl
      · rintro m E H n Q K ⟨i, hm, h0, h5, h6, rfl, hH⟩ hQ hK
        cases m with
        | zero =>
          obtain rfl : i = xs.length := by omega
          simp -dsimp only [↓SD, SP, ↓reduceIte, Nat.reduceEqDiff, ini, frz, rdAo, rd3o, rd2o, rdpo, rd1o, fnv, intv, VOp.dst, getRo, solEo, solo, solo1, allsz, List.all_cons, List.all_nil, Bool.and_true, beq_self_eq_true, List.length_cons, List.length_nil, Nat.zero_add, srcv, Nat.le_refl, List.take_succ_cons, List.take_zero, and_self, if_true, Nat.reduceAdd, Nat.reduceLT, eq_self, h0, h5, h6, l_strs, Int.ofNat_lt, Nat.lt_irrefl]
          refine hQ _ _ _ _ ⟨rfl, h0, h5, rfl, ?_⟩
          rw [hH]
          simp
        | succ m =>
          have hi : i < xs.length := by omega
          simp -dsimp only [↓SD, SP, ↓reduceIte, Nat.reduceEqDiff, ini, frz, rdAo, rd3o, rd2o, rdpo, rd1o, fnv, intv, VOp.dst, getRo, solEo, solo, solo1, allsz, List.all_cons, List.all_nil, Bool.and_true, beq_self_eq_true, List.length_cons, List.length_nil, Nat.zero_add, srcv, Nat.le_refl, List.take_succ_cons, List.take_zero, and_self, if_true, Nat.reduceAdd, Nat.reduceLT, eq_self, h0, h5, h6, l_strs, Int.ofNat_lt, hi, x_strs _ _ hi, x_own _ _ _ _ _ (show i < xs.length + rm xs.length by omega), st_str (i := i) hH (by simp; omega), wrap64 ((i : Int) + 1) (by omega)]
          refine hK m _ _ _ rfl ⟨i + 1, by omega, ?_, ?_, ?_, rfl, ?_⟩
          · simp -dsimp only [↓SD, SP, ↓reduceIte, Nat.reduceEqDiff, ini, frz, rdAo, rd3o, rd2o, rdpo, rd1o, fnv, intv, VOp.dst, getRo, solEo, solo, solo1, allsz, List.all_cons, List.all_nil, Bool.and_true, beq_self_eq_true, List.length_cons, List.length_nil, Nat.zero_add, srcv, Nat.le_refl, List.take_succ_cons, List.take_zero, and_self, if_true, Nat.reduceAdd, Nat.reduceLT, eq_self, h0]
          · simp -dsimp only [↓SD, SP, ↓reduceIte, Nat.reduceEqDiff, ini, frz, rdAo, rd3o, rd2o, rdpo, rd1o, fnv, intv, VOp.dst, getRo, solEo, solo, solo1, allsz, List.all_cons, List.all_nil, Bool.and_true, beq_self_eq_true, List.length_cons, List.length_nil, Nat.zero_add, srcv, Nat.le_refl, List.take_succ_cons, List.take_zero, and_self, if_true, Nat.reduceAdd, Nat.reduceLT, eq_self, h5]
          · simp -dsimp only [↓SD, SP, ↓reduceIte, Nat.reduceEqDiff, ini, frz, rdAo, rd3o, rd2o, rdpo, rd1o, fnv, intv, VOp.dst, getRo, solEo, solo, solo1, allsz, List.all_cons, List.all_nil, Bool.and_true, beq_self_eq_true, List.length_cons, List.length_nil, Nat.zero_add, srcv, Nat.le_refl, List.take_succ_cons, List.take_zero, and_self, if_true, Nat.reduceAdd, Nat.reduceLT, eq_self, Int.natCast_add, Int.natCast_one]
          · simp -dsimp only [↓SD, SP, ↓reduceIte, Nat.reduceEqDiff, ini, frz, rdAo, rd3o, rd2o, rdpo, rd1o, fnv, intv, VOp.dst, getRo, solEo, solo, solo1, allsz, List.all_cons, List.all_nil, Bool.and_true, beq_self_eq_true, List.length_cons, List.length_nil, Nat.zero_add, srcv, Nat.le_refl, List.take_succ_cons, List.take_zero, and_self, if_true, Nat.reduceAdd, Nat.reduceLT, eq_self]
            rw [show m + 1 + rm xs.length = (m + rm xs.length) + 1 by omega, set_take hi]
    · simp -dsimp only [↓SD, SP, ↓reduceIte, Nat.reduceEqDiff, ini, frz, rdAo, rd3o, rd2o, rdpo, rd1o, fnv, intv, VOp.dst, getRo, solEo, solo, solo1, allsz, List.all_cons, List.all_nil, Bool.and_true, beq_self_eq_true, List.length_cons, List.length_nil, Nat.zero_add, srcv, Nat.le_refl, List.take_succ_cons, List.take_zero, and_self, if_true, Nat.reduceAdd, Nat.reduceLT, eq_self, c8, l_strs, hl' rfl]
      refine call_rule h54 ?_
      rintro lo' hi r g1 g2 rfl
      simp -dsimp only [↓SD, SP, ↓reduceIte, Nat.reduceEqDiff, ini, frz, rdAo, rd3o, rd2o, rdpo, rd1o, fnv, intv, VOp.dst, getRo, solEo, solo, solo1, allsz, List.all_cons, List.all_nil, Bool.and_true, beq_self_eq_true, List.length_cons, List.length_nil, Nat.zero_add, srcv, Nat.le_refl, List.take_succ_cons, List.take_zero, and_self, if_true, Nat.reduceAdd, Nat.reduceLT, eq_self, wrap64 ((xs.length : Int) + rm xs.length) (by omega)]
      refine mk_at (by omega) ?_
      intro g hg
      simp -dsimp only [↓SD, SP, ↓reduceIte, Nat.reduceEqDiff, ini, frz, rdAo, rd3o, rd2o, rdpo, rd1o, fnv, intv, VOp.dst, getRo, solEo, solo, solo1, allsz, List.all_cons, List.all_nil, Bool.and_true, beq_self_eq_true, List.length_cons, List.length_nil, Nat.zero_add, srcv, Nat.le_refl, List.take_succ_cons, List.take_zero, and_self, if_true, Nat.reduceAdd, Nat.reduceLT, eq_self]
      refine loop_rule (fun m E H n => ∃ i : Nat, m + i = xs.length ∧ E 0 = strs xs ∧ E 5 = .own 20 g 1 (xs.length + rm xs.length) ∧ E 6 = .int .i64 i ∧ n = g + 1 ∧
          H 20 = some ⟨g, 1, (xs.take i ++ List.replicate (m + rm xs.length) (⟨#[]⟩ : ByteArray)).map .str, false, true, true⟩)
        (fun e E H n => e = .exit 0 ∧ E 0 = strs xs ∧ E 5 = .own 20 g 1 (xs.length + rm xs.length) ∧ n = g + 1 ∧ H 20 = some ⟨g, 1, (xs ++ List.replicate (rm xs.length) (⟨#[]⟩ : ByteArray)).map .str, false, true, true⟩)
        xs.length ⟨0, rfl, rfl, ?_, rfl, rfl, ?_⟩ ?_ ?_
      · simp -dsimp only [↓SD, SP, ↓reduceIte, Nat.reduceEqDiff, ini, frz, rdAo, rd3o, rd2o, rdpo, rd1o, fnv, intv, VOp.dst, getRo, solEo, solo, solo1, allsz, List.all_cons, List.all_nil, Bool.and_true, beq_self_eq_true, List.length_cons, List.length_nil, Nat.zero_add, srcv, Nat.le_refl, List.take_succ_cons, List.take_zero, and_self, if_true, Nat.reduceAdd, Nat.reduceLT, eq_self, show ((xs.length : Int) + rm xs.length).toNat = xs.length + rm xs.length by omega]
      · simp -dsimp only [↓SD, SP, ↓reduceIte, Nat.reduceEqDiff, ini, frz, rdAo, rd3o, rd2o, rdpo, rd1o, fnv, intv, VOp.dst, getRo, solEo, solo, solo1, allsz, List.all_cons, List.all_nil, Bool.and_true, beq_self_eq_true, List.length_cons, List.length_nil, Nat.zero_add, srcv, Nat.le_refl, List.take_succ_cons, List.take_zero, and_self, if_true, Nat.reduceAdd, Nat.reduceLT, eq_self, show ((xs.length : Int) + rm xs.length).toNat = xs.length + rm xs.length by omega, List.take_zero, List.map_replicate]
      · rintro e E H n ⟨rfl, h0, h5, rfl, hH⟩
        simp -dsimp only [↓SD, SP, ↓reduceIte, Nat.reduceEqDiff, ini, frz, rdAo, rd3o, rd2o, rdpo, rd1o, fnv, intv, VOp.dst, getRo, solEo, solo, solo1, allsz, List.all_cons, List.all_nil, Bool.and_true, beq_self_eq_true, List.length_cons, List.length_nil, Nat.zero_add, srcv, Nat.le_refl, List.take_succ_cons, List.take_zero, and_self, if_true, Nat.reduceAdd, Nat.reduceLT, eq_self, h0, l_strs]
        refine loop_rule (fun m E H n => ∃ k : Nat, m + k = rm xs.length ∧ E 0 = strs xs ∧ E 5 = .own 20 g 1 (xs.length + rm xs.length) ∧ E 7 = .int .i64 (xs.length + k : Nat) ∧ n = g + 1 ∧
            H 20 = some ⟨g, 1, (xs ++ List.replicate k spare ++ List.replicate m (⟨#[]⟩ : ByteArray)).map .str, false, true, true⟩)
          (fun e E H n => e = .exit 2 ∧ E 0 = strs xs ∧ E 5 = .own 20 g 1 (xs.length + rm xs.length) ∧ n = g + 1 ∧ H 20 = some ⟨g, 1, (roomy xs).map .str, false, true, true⟩)
          (rm xs.length) ⟨0, rfl, ?_, ?_, ?_, rfl, ?_⟩ ?_ ?_
        · simp -dsimp only [↓SD, SP, ↓reduceIte, Nat.reduceEqDiff, ini, frz, rdAo, rd3o, rd2o, rdpo, rd1o, fnv, intv, VOp.dst, getRo, solEo, solo, solo1, allsz, List.all_cons, List.all_nil, Bool.and_true, beq_self_eq_true, List.length_cons, List.length_nil, Nat.zero_add, srcv, Nat.le_refl, List.take_succ_cons, List.take_zero, and_self, if_true, Nat.reduceAdd, Nat.reduceLT, eq_self, h0]
        · simp -dsimp only [↓SD, SP, ↓reduceIte, Nat.reduceEqDiff, ini, frz, rdAo, rd3o, rd2o, rdpo, rd1o, fnv, intv, VOp.dst, getRo, solEo, solo, solo1, allsz, List.all_cons, List.all_nil, Bool.and_true, beq_self_eq_true, List.length_cons, List.length_nil, Nat.zero_add, srcv, Nat.le_refl, List.take_succ_cons, List.take_zero, and_self, if_true, Nat.reduceAdd, Nat.reduceLT, eq_self, h5]
        · simp -dsimp only [↓SD, SP, ↓reduceIte, Nat.reduceEqDiff, ini, frz, rdAo, rd3o, rd2o, rdpo, rd1o, fnv, intv, VOp.dst, getRo, solEo, solo, solo1, allsz, List.all_cons, List.all_nil, Bool.and_true, beq_self_eq_true, List.length_cons, List.length_nil, Nat.zero_add, srcv, Nat.le_refl, List.take_succ_cons, List.take_zero, and_self, if_true, Nat.reduceAdd, Nat.reduceLT, eq_self, Nat.add_zero]
        · simp -dsimp only [↓SD, SP, ↓reduceIte, Nat.reduceEqDiff, ini, frz, rdAo, rd3o, rd2o, rdpo, rd1o, fnv, intv, VOp.dst, getRo, solEo, solo, solo1, allsz, List.all_cons, List.all_nil, Bool.and_true, beq_self_eq_true, List.length_cons, List.length_nil, Nat.zero_add, srcv, Nat.le_refl, List.take_succ_cons, List.take_zero, and_self, if_true, Nat.reduceAdd, Nat.reduceLT, eq_self, hH, List.replicate_zero]
        · rintro e E H n ⟨rfl, h0, h5, rfl, hH⟩
          have hroom : (roomy xs).length = xs.length + rm xs.length := by simp [roomy]
          have hsl : slcv H 1 (.own 20 g 1 (xs.length + rm xs.length)) none (some (.int .i64 xs.length)) = some (.own 20 g 1 xs.length) := by
            simp [slcv, hH, hroom]
          simp -dsimp only [↓SD, SP, ↓reduceIte, Nat.reduceEqDiff, ini, frz, rdAo, rd3o, rd2o, rdpo, rd1o, fnv, intv, VOp.dst, getRo, solEo, solo, solo1, allsz, List.all_cons, List.all_nil, Bool.and_true, beq_self_eq_true, List.length_cons, List.length_nil, Nat.zero_add, srcv, Nat.le_refl, List.take_succ_cons, List.take_zero, and_self, if_true, Nat.reduceAdd, Nat.reduceLT, eq_self, h0, h5, l_strs, hsl, hH, List.length_map, hroom, Nat.le_add_right, and_self]
          exact ⟨g, by omega, by omega, rfl⟩
        · rintro m E H n Q K ⟨k, hm, h0, h5, h7, rfl, hH⟩ hQ hK
          cases m with
          | zero =>
            obtain rfl : k = rm xs.length := by omega
            simp -dsimp only [↓SD, SP, ↓reduceIte, Nat.reduceEqDiff, ini, frz, rdAo, rd3o, rd2o, rdpo, rd1o, fnv, intv, VOp.dst, getRo, solEo, solo, solo1, allsz, List.all_cons, List.all_nil, Bool.and_true, beq_self_eq_true, List.length_cons, List.length_nil, Nat.zero_add, srcv, Nat.le_refl, List.take_succ_cons, List.take_zero, and_self, if_true, Nat.reduceAdd, Nat.reduceLT, eq_self, h0, h5, h7, Int.ofNat_lt, Nat.lt_irrefl]
            refine hQ _ _ _ _ ⟨rfl, h0, h5, rfl, ?_⟩
            rw [hH]
            simp [roomy]
          | succ m =>
            simp -dsimp only [↓SD, SP, ↓reduceIte, Nat.reduceEqDiff, ini, frz, rdAo, rd3o, rd2o, rdpo, rd1o, fnv, intv, VOp.dst, getRo, solEo, solo, solo1, allsz, List.all_cons, List.all_nil, Bool.and_true, beq_self_eq_true, List.length_cons, List.length_nil, Nat.zero_add, srcv, Nat.le_refl, List.take_succ_cons, List.take_zero, and_self, if_true, Nat.reduceAdd, Nat.reduceLT, eq_self, h0, h5, h7, Int.ofNat_lt, show xs.length + k < xs.length + rm xs.length by omega, x_own _ _ _ _ _ (show xs.length + k < xs.length + rm xs.length by omega), st_str (i := xs.length + k) hH (by simp), wrap64 (((xs.length + k : Nat) : Int) + 1) (by omega)]
            refine hK m _ _ _ rfl ⟨k + 1, by omega, ?_, ?_, ?_, rfl, ?_⟩
            · simp -dsimp only [↓SD, SP, ↓reduceIte, Nat.reduceEqDiff, ini, frz, rdAo, rd3o, rd2o, rdpo, rd1o, fnv, intv, VOp.dst, getRo, solEo, solo, solo1, allsz, List.all_cons, List.all_nil, Bool.and_true, beq_self_eq_true, List.length_cons, List.length_nil, Nat.zero_add, srcv, Nat.le_refl, List.take_succ_cons, List.take_zero, and_self, if_true, Nat.reduceAdd, Nat.reduceLT, eq_self, h0]
            · simp -dsimp only [↓SD, SP, ↓reduceIte, Nat.reduceEqDiff, ini, frz, rdAo, rd3o, rd2o, rdpo, rd1o, fnv, intv, VOp.dst, getRo, solEo, solo, solo1, allsz, List.all_cons, List.all_nil, Bool.and_true, beq_self_eq_true, List.length_cons, List.length_nil, Nat.zero_add, srcv, Nat.le_refl, List.take_succ_cons, List.take_zero, and_self, if_true, Nat.reduceAdd, Nat.reduceLT, eq_self, h5]
            · simp -dsimp only [↓SD, SP, ↓reduceIte, Nat.reduceEqDiff, ini, frz, rdAo, rd3o, rd2o, rdpo, rd1o, fnv, intv, VOp.dst, getRo, solEo, solo, solo1, allsz, List.all_cons, List.all_nil, Bool.and_true, beq_self_eq_true, List.length_cons, List.length_nil, Nat.zero_add, srcv, Nat.le_refl, List.take_succ_cons, List.take_zero, and_self, if_true, Nat.reduceAdd, Nat.reduceLT, eq_self, show ((xs.length + k : Nat) : Int) + 1 = ((xs.length + (k + 1) : Nat) : Int) by omega]
            · simp -dsimp only [↓SD, SP, ↓reduceIte, Nat.reduceEqDiff, ini, frz, rdAo, rd3o, rd2o, rdpo, rd1o, fnv, intv, VOp.dst, getRo, solEo, solo, solo1, allsz, List.all_cons, List.all_nil, Bool.and_true, beq_self_eq_true, List.length_cons, List.length_nil, Nat.zero_add, srcv, Nat.le_refl, List.take_succ_cons, List.take_zero, and_self, if_true, Nat.reduceAdd, Nat.reduceLT, eq_self]
              rw [← set_rep]
              rfl
      · rintro m E H n Q K ⟨i, hm, h0, h5, h6, rfl, hH⟩ hQ hK
        cases m with
        | zero =>
          obtain rfl : i = xs.length := by omega
          simp -dsimp only [↓SD, SP, ↓reduceIte, Nat.reduceEqDiff, ini, frz, rdAo, rd3o, rd2o, rdpo, rd1o, fnv, intv, VOp.dst, getRo, solEo, solo, solo1, allsz, List.all_cons, List.all_nil, Bool.and_true, beq_self_eq_true, List.length_cons, List.length_nil, Nat.zero_add, srcv, Nat.le_refl, List.take_succ_cons, List.take_zero, and_self, if_true, Nat.reduceAdd, Nat.reduceLT, eq_self, h0, h5, h6, l_strs, Int.ofNat_lt, Nat.lt_irrefl]
          refine hQ _ _ _ _ ⟨rfl, h0, h5, rfl, ?_⟩
          rw [hH]
          simp
        | succ m =>
          have hi : i < xs.length := by omega
          simp -dsimp only [↓SD, SP, ↓reduceIte, Nat.reduceEqDiff, ini, frz, rdAo, rd3o, rd2o, rdpo, rd1o, fnv, intv, VOp.dst, getRo, solEo, solo, solo1, allsz, List.all_cons, List.all_nil, Bool.and_true, beq_self_eq_true, List.length_cons, List.length_nil, Nat.zero_add, srcv, Nat.le_refl, List.take_succ_cons, List.take_zero, and_self, if_true, Nat.reduceAdd, Nat.reduceLT, eq_self, h0, h5, h6, l_strs, Int.ofNat_lt, hi, x_strs _ _ hi, x_own _ _ _ _ _ (show i < xs.length + rm xs.length by omega), st_str (i := i) hH (by simp; omega), wrap64 ((i : Int) + 1) (by omega)]
          refine hK m _ _ _ rfl ⟨i + 1, by omega, ?_, ?_, ?_, rfl, ?_⟩
          · simp -dsimp only [↓SD, SP, ↓reduceIte, Nat.reduceEqDiff, ini, frz, rdAo, rd3o, rd2o, rdpo, rd1o, fnv, intv, VOp.dst, getRo, solEo, solo, solo1, allsz, List.all_cons, List.all_nil, Bool.and_true, beq_self_eq_true, List.length_cons, List.length_nil, Nat.zero_add, srcv, Nat.le_refl, List.take_succ_cons, List.take_zero, and_self, if_true, Nat.reduceAdd, Nat.reduceLT, eq_self, h0]
          · simp -dsimp only [↓SD, SP, ↓reduceIte, Nat.reduceEqDiff, ini, frz, rdAo, rd3o, rd2o, rdpo, rd1o, fnv, intv, VOp.dst, getRo, solEo, solo, solo1, allsz, List.all_cons, List.all_nil, Bool.and_true, beq_self_eq_true, List.length_cons, List.length_nil, Nat.zero_add, srcv, Nat.le_refl, List.take_succ_cons, List.take_zero, and_self, if_true, Nat.reduceAdd, Nat.reduceLT, eq_self, h5]
          · simp -dsimp only [↓SD, SP, ↓reduceIte, Nat.reduceEqDiff, ini, frz, rdAo, rd3o, rd2o, rdpo, rd1o, fnv, intv, VOp.dst, getRo, solEo, solo, solo1, allsz, List.all_cons, List.all_nil, Bool.and_true, beq_self_eq_true, List.length_cons, List.length_nil, Nat.zero_add, srcv, Nat.le_refl, List.take_succ_cons, List.take_zero, and_self, if_true, Nat.reduceAdd, Nat.reduceLT, eq_self, Int.natCast_add, Int.natCast_one]
          · simp -dsimp only [↓SD, SP, ↓reduceIte, Nat.reduceEqDiff, ini, frz, rdAo, rd3o, rd2o, rdpo, rd1o, fnv, intv, VOp.dst, getRo, solEo, solo, solo1, allsz, List.all_cons, List.all_nil, Bool.and_true, beq_self_eq_true, List.length_cons, List.length_nil, Nat.zero_add, srcv, Nat.le_refl, List.take_succ_cons, List.take_zero, and_self, if_true, Nat.reduceAdd, Nat.reduceLT, eq_self]
            rw [show m + 1 + rm xs.length = (m + rm xs.length) + 1 by omega, set_take hi]

/-- spec.l1Line -/
theorem s82 (s : ByteArray) (hs : s.size ≤ 1000000) : OK Go.Proofs.Try.prog 49 [.str s] (fun _ _ r => r = .bool (lineOk s)) := by
  refine fn_ok k49 rfl ?_
  generalize OK Go.Proofs.Try.prog = L
  intro lo
  simp -dsimp only [↓SD, SP, ↓reduceIte, Nat.reduceEqDiff, ini, frz, rdAo, rd3o, rd2o, rdpo, rd1o, fnv, intv, VOp.dst, getRo, solEo, solo, solo1, allsz, List.all_cons, List.all_nil, Bool.and_true, beq_self_eq_true, List.length_cons, List.length_nil, Nat.zero_add, srcv, Nat.le_refl, List.take_succ_cons, List.take_zero, and_self, if_true, Nat.reduceAdd, Nat.reduceLT, eq_self, c49]
  refine loop_rule (fun m E H n => ∃ i : Nat, m + i = s.size ∧ E 0 = .str s ∧ E 3 = .int .i64 i ∧ ∀ j, (h : j < s.size) → j < i → charOk s[j] = true)
    (fun e E H n => (e = .exit 0 ∧ E 0 = .str s ∧ lineOk s = decide (s.size ≤ 12)) ∨ (e = .ret ∧ E 2 = .bool (lineOk s))) s.size ⟨0, rfl, rfl, rfl, fun j h h' => by omega⟩ ?_ ?_
  · rintro e E H n (⟨rfl, h0, h1⟩ | ⟨rfl, h2⟩)
    · simp -dsimp only [↓SD, SP, ↓reduceIte, Nat.reduceEqDiff, ini, frz, rdAo, rd3o, rd2o, rdpo, rd1o, fnv, intv, VOp.dst, getRo, solEo, solo, solo1, allsz, List.all_cons, List.all_nil, Bool.and_true, beq_self_eq_true, List.length_cons, List.length_nil, Nat.zero_add, srcv, Nat.le_refl, List.take_succ_cons, List.take_zero, and_self, if_true, Nat.reduceAdd, Nat.reduceLT, eq_self, h0, h1, Int.ofNat_le, show (12 : Int) = ((12 : Nat) : Int) from rfl]
    · simp -dsimp only [↓SD, SP, ↓reduceIte, Nat.reduceEqDiff, ini, frz, rdAo, rd3o, rd2o, rdpo, rd1o, fnv, intv, VOp.dst, getRo, solEo, solo, solo1, allsz, List.all_cons, List.all_nil, Bool.and_true, beq_self_eq_true, List.length_cons, List.length_nil, Nat.zero_add, srcv, Nat.le_refl, List.take_succ_cons, List.take_zero, and_self, if_true, Nat.reduceAdd, Nat.reduceLT, eq_self, h2]
  · rintro m E H n Q K ⟨i, hm, h0, h6, hp⟩ hQ hK
    by_cases hi : i < s.size
    · have key : charOk s[i] = decide (32 ≤ s[i].toNat ∧ s[i].toNat ≤ 126) := rfl
      by_cases ha : (s[i].toNat : Int) < 32
      · simp -dsimp only [↓SD, SP, ↓reduceIte, Nat.reduceEqDiff, ini, frz, rdAo, rd3o, rd2o, rdpo, rd1o, fnv, intv, VOp.dst, getRo, solEo, solo, solo1, allsz, List.all_cons, List.all_nil, Bool.and_true, beq_self_eq_true, List.length_cons, List.length_nil, Nat.zero_add, srcv, Nat.le_refl, List.take_succ_cons, List.take_zero, and_self, if_true, Nat.reduceAdd, Nat.reduceLT, eq_self, h0, h6, x_str _ _ hi, Int.ofNat_lt, hi, ha]
        refine hQ _ _ _ _ (.inr ⟨rfl, ?_⟩)
        simp -dsimp only [↓SD, SP, ↓reduceIte, Nat.reduceEqDiff, ini, frz, rdAo, rd3o, rd2o, rdpo, rd1o, fnv, intv, VOp.dst, getRo, solEo, solo, solo1, allsz, List.all_cons, List.all_nil, Bool.and_true, beq_self_eq_true, List.length_cons, List.length_nil, Nat.zero_add, srcv, Nat.le_refl, List.take_succ_cons, List.take_zero, and_self, if_true, Nat.reduceAdd, Nat.reduceLT, eq_self, lineOk_no hi (by rw [key]; simp; omega)]
      · by_cases hb : (126 : Int) < s[i].toNat
        · simp -dsimp only [↓SD, SP, ↓reduceIte, Nat.reduceEqDiff, ini, frz, rdAo, rd3o, rd2o, rdpo, rd1o, fnv, intv, VOp.dst, getRo, solEo, solo, solo1, allsz, List.all_cons, List.all_nil, Bool.and_true, beq_self_eq_true, List.length_cons, List.length_nil, Nat.zero_add, srcv, Nat.le_refl, List.take_succ_cons, List.take_zero, and_self, if_true, Nat.reduceAdd, Nat.reduceLT, eq_self, h0, h6, x_str _ _ hi, Int.ofNat_lt, hi, ha, hb]
          refine hQ _ _ _ _ (.inr ⟨rfl, ?_⟩)
          simp -dsimp only [↓SD, SP, ↓reduceIte, Nat.reduceEqDiff, ini, frz, rdAo, rd3o, rd2o, rdpo, rd1o, fnv, intv, VOp.dst, getRo, solEo, solo, solo1, allsz, List.all_cons, List.all_nil, Bool.and_true, beq_self_eq_true, List.length_cons, List.length_nil, Nat.zero_add, srcv, Nat.le_refl, List.take_succ_cons, List.take_zero, and_self, if_true, Nat.reduceAdd, Nat.reduceLT, eq_self, lineOk_no hi (by rw [key]; simp; omega)]
        · simp -dsimp only [↓SD, SP, ↓reduceIte, Nat.reduceEqDiff, ini, frz, rdAo, rd3o, rd2o, rdpo, rd1o, fnv, intv, VOp.dst, getRo, solEo, solo, solo1, allsz, List.all_cons, List.all_nil, Bool.and_true, beq_self_eq_true, List.length_cons, List.length_nil, Nat.zero_add, srcv, Nat.le_refl, List.take_succ_cons, List.take_zero, and_self, if_true, Nat.reduceAdd, Nat.reduceLT, eq_self, h0, h6, x_str _ _ hi, Int.ofNat_lt, hi, ha, hb, wrap64 ((i : Int) + 1) (by omega)]
          refine hK (m - 1) _ _ _ (by omega) ⟨i + 1, by omega, ?_, ?_, fun j h hj => ?_⟩
          · simp -dsimp only [↓SD, SP, ↓reduceIte, Nat.reduceEqDiff, ini, frz, rdAo, rd3o, rd2o, rdpo, rd1o, fnv, intv, VOp.dst, getRo, solEo, solo, solo1, allsz, List.all_cons, List.all_nil, Bool.and_true, beq_self_eq_true, List.length_cons, List.length_nil, Nat.zero_add, srcv, Nat.le_refl, List.take_succ_cons, List.take_zero, and_self, if_true, Nat.reduceAdd, Nat.reduceLT, eq_self, h0]
          · simp -dsimp only [↓SD, SP, ↓reduceIte, Nat.reduceEqDiff, ini, frz, rdAo, rd3o, rd2o, rdpo, rd1o, fnv, intv, VOp.dst, getRo, solEo, solo, solo1, allsz, List.all_cons, List.all_nil, Bool.and_true, beq_self_eq_true, List.length_cons, List.length_nil, Nat.zero_add, srcv, Nat.le_refl, List.take_succ_cons, List.take_zero, and_self, if_true, Nat.reduceAdd, Nat.reduceLT, eq_self, Int.natCast_add, Int.natCast_one]
          · rcases Nat.lt_or_ge j i with h' | h'
            · exact hp j h h'
            · obtain rfl : j = i := by omega
              rw [key]; simp; omega
    · simp -dsimp only [↓SD, SP, ↓reduceIte, Nat.reduceEqDiff, ini, frz, rdAo, rd3o, rd2o, rdpo, rd1o, fnv, intv, VOp.dst, getRo, solEo, solo, solo1, allsz, List.all_cons, List.all_nil, Bool.and_true, beq_self_eq_true, List.length_cons, List.length_nil, Nat.zero_add, srcv, Nat.le_refl, List.take_succ_cons, List.take_zero, and_self, if_true, Nat.reduceAdd, Nat.reduceLT, eq_self, h0, h6, Int.ofNat_lt, hi]
      exact hQ _ _ _ _ (.inl ⟨rfl, h0, lineOk_yes fun j h => hp j h (by omega)⟩)
def textOk (xs : List ByteArray) : Bool := xs.all lineOk && decide (xs.length ≤ 10)
/-- spec.l1Ok -/
theorem s53 (xs : List ByteArray) (h : okL xs) : OK Go.Proofs.Try.prog 38 [strs xs] (fun _ _ r => r = .bool (textOk xs)) := by
  refine fn_ok k38 rfl ?_
  have hf : ∀ s ∈ xs, OK Go.Proofs.Try.prog 49 [.str s] (fun _ _ r => r = .bool (lineOk s)) := fun s hs => s82 s (h.2 s hs)
  generalize OK Go.Proofs.Try.prog = L at hf ⊢
  intro lo
  simp -dsimp only [↓SD, SP, ↓reduceIte, Nat.reduceEqDiff, ini, frz, rdAo, rd3o, rd2o, rdpo, rd1o, fnv, intv, VOp.dst, getRo, solEo, solo, solo1, allsz, List.all_cons, List.all_nil, Bool.and_true, beq_self_eq_true, List.length_cons, List.length_nil, Nat.zero_add, srcv, Nat.le_refl, List.take_succ_cons, List.take_zero, and_self, if_true, Nat.reduceAdd, Nat.reduceLT, eq_self, c38]
  refine loop_rule (fun m E H n => ∃ i : Nat, m + i = xs.length ∧ E 0 = strs xs ∧ E 3 = .int .i64 i ∧ (xs.take i).all lineOk = true)
    (fun e E H n => (e = .exit 0 ∧ E 0 = strs xs ∧ xs.all lineOk = true) ∨ (e = .ret ∧ E 2 = .bool false ∧ xs.all lineOk = false)) xs.length ⟨0, rfl, rfl, rfl, rfl⟩ ?_ ?_
  · rintro e E H n (⟨rfl, h0, h1⟩ | ⟨rfl, h2, h3⟩)
    · simp -dsimp only [↓SD, SP, ↓reduceIte, Nat.reduceEqDiff, ini, frz, rdAo, rd3o, rd2o, rdpo, rd1o, fnv, intv, VOp.dst, getRo, solEo, solo, solo1, allsz, List.all_cons, List.all_nil, Bool.and_true, beq_self_eq_true, List.length_cons, List.length_nil, Nat.zero_add, srcv, Nat.le_refl, List.take_succ_cons, List.take_zero, and_self, if_true, Nat.reduceAdd, Nat.reduceLT, eq_self, h0, l_strs, Int.ofNat_le, show (10 : Int) = ((10 : Nat) : Int) from rfl]
      simp [textOk, h1]
    · simp -dsimp only [↓SD, SP, ↓reduceIte, Nat.reduceEqDiff, ini, frz, rdAo, rd3o, rd2o, rdpo, rd1o, fnv, intv, VOp.dst, getRo, solEo, solo, solo1, allsz, List.all_cons, List.all_nil, Bool.and_true, beq_self_eq_true, List.length_cons, List.length_nil, Nat.zero_add, srcv, Nat.le_refl, List.take_succ_cons, List.take_zero, and_self, if_true, Nat.reduceAdd, Nat.reduceLT, eq_self, h2]
      simp [textOk, h3]
  · rintro m E H n Q K ⟨i, hm, h0, h3, hp⟩ hQ hK
    by_cases hi : i < xs.length
    · simp -dsimp only [↓SD, SP, ↓reduceIte, Nat.reduceEqDiff, ini, frz, rdAo, rd3o, rd2o, rdpo, rd1o, fnv, intv, VOp.dst, getRo, solEo, solo, solo1, allsz, List.all_cons, List.all_nil, Bool.and_true, beq_self_eq_true, List.length_cons, List.length_nil, Nat.zero_add, srcv, Nat.le_refl, List.take_succ_cons, List.take_zero, and_self, if_true, Nat.reduceAdd, Nat.reduceLT, eq_self, h0, h3, l_strs, Int.ofNat_lt, hi, x_strs _ _ hi]
      refine call_rule (hf xs[i] (List.getElem_mem hi)) ?_
      rintro lo' hi' r g1 g2 rfl
      have hk := h.1
      have hany : (xs.take (i + 1)).all lineOk = lineOk xs[i] := by
        rw [List.take_succ_eq_append_getElem hi, List.all_append, hp]
        simp
      cases hb : lineOk xs[i]
      · simp -dsimp only [↓SD, SP, ↓reduceIte, Nat.reduceEqDiff, ini, frz, rdAo, rd3o, rd2o, rdpo, rd1o, fnv, intv, VOp.dst, getRo, solEo, solo, solo1, allsz, List.all_cons, List.all_nil, Bool.and_true, beq_self_eq_true, List.length_cons, List.length_nil, Nat.zero_add, srcv, Nat.le_refl, List.take_succ_cons, List.take_zero, and_self, if_true, Nat.reduceAdd, Nat.reduceLT, eq_self, h0, h3]
        refine hQ _ _ _ _ (.inr ⟨rfl, ?_, ?_⟩)
        · simp -dsimp only [↓SD, SP, ↓reduceIte, Nat.reduceEqDiff, ini, frz, rdAo, rd3o, rd2o, rdpo, rd1o, fnv, intv, VOp.dst, getRo, solEo, solo, solo1, allsz, List.all_cons, List.all_nil, Bool.and_true, beq_self_eq_true, List.length_cons, List.length_nil, Nat.zero_add, srcv, Nat.le_refl, List.take_succ_cons, List.take_zero, and_self, if_true, Nat.reduceAdd, Nat.reduceLT, eq_self]
        · exact List.all_eq_false.2 ⟨xs[i], List.getElem_mem hi, by rw [hb]; simp⟩
      · simp -dsimp only [↓SD, SP, ↓reduceIte, Nat.reduceEqDiff, ini, frz, rdAo, rd3o, rd2o, rdpo, rd1o, fnv, intv, VOp.dst, getRo, solEo, solo, solo1, allsz, List.all_cons, List.all_nil, Bool.and_true, beq_self_eq_true, List.length_cons, List.length_nil, Nat.zero_add, srcv, Nat.le_refl, List.take_succ_cons, List.take_zero, and_self, if_true, Nat.reduceAdd, Nat.reduceLT, eq_self, h0, h3, wrap64 ((i : Int) + 1) (by omega)]
        refine hK (m - 1) _ _ _ (by omega) ⟨i + 1, by omega, ?_, ?_, by rw [hany, hb]⟩
        · simp -dsimp only [↓SD, SP, ↓reduceIte, Nat.reduceEqDiff, ini, frz, rdAo, rd3o, rd2o, rdpo, rd1o, fnv, intv, VOp.dst, getRo, solEo, solo, solo1, allsz, List.all_cons, List.all_nil, Bool.and_true, beq_self_eq_true, List.length_cons, List.length_nil, Nat.zero_add, srcv, Nat.le_refl, List.take_succ_cons, List.take_zero, and_self, if_true, Nat.reduceAdd, Nat.reduceLT, eq_self, h0]
        · simp -dsimp only [↓SD, SP, ↓reduceIte, Nat.reduceEqDiff, ini, frz, rdAo, rd3o, rd2o, rdpo, rd1o, fnv, intv, VOp.dst, getRo, solEo, solo, solo1, allsz, List.all_cons, List.all_nil, Bool.and_true, beq_self_eq_true, List.length_cons, List.length_nil, Nat.zero_add, srcv, Nat.le_refl, List.take_succ_cons, List.take_zero, and_self, if_true, Nat.reduceAdd, Nat.reduceLT, eq_self, Int.natCast_add, Int.natCast_one]
    · simp -dsimp only [↓SD, SP, ↓reduceIte, Nat.reduceEqDiff, ini, frz, rdAo, rd3o, rd2o, rdpo, rd1o, fnv, intv, VOp.dst, getRo, solEo, solo, solo1, allsz, List.all_cons, List.all_nil, Bool.and_true, beq_self_eq_true, List.length_cons, List.length_nil, Nat.zero_add, srcv, Nat.le_refl, List.take_succ_cons, List.take_zero, and_self, if_true, Nat.reduceAdd, Nat.reduceLT, eq_self, h0, h3, l_strs, Int.ofNat_lt, hi]
      refine hQ _ _ _ _ (.inl ⟨rfl, h0, ?_⟩)
      rw [List.take_of_length_le (by omega)] at hp
      exact hp
theorem take_strs (xs : List ByteArray) : (AV.lsl none xs.length ((xs.map AV.str).take xs.length)) = strs xs := by
  rw [List.take_of_length_le (by simp)]
  rfl
end Go.AVM

set_option linter.unusedSimpArgs false
namespace Go.AVM
/-- slices.ContainsFunc -/
theorem s55 (p : ByteArray → Bool) (f : Nat) (xs : List ByteArray) (h : okL xs) (hf : ∀ s ∈ xs, OK Go.Proofs.Try.prog f [.str s] (fun _ _ r => r = .bool (p s))) :
    OK Go.Proofs.Try.prog 52 [strs xs, .fn f []] (fun _ _ r => r = .bool (xs.any p)) := by
  refine fn_ok k52 rfl ?_
  have hs := s83 p f xs h hf
  generalize OK Go.Proofs.Try.prog = L at hs ⊢
  intro lo
  simp -dsimp only [↓SD, SP, ↓reduceIte, Nat.reduceEqDiff, ini, frz, rdAo, rd3o, rd2o, rdpo, rd1o, fnv, intv, VOp.dst, getRo, solEo, solo, solo1, allsz, List.all_cons, List.all_nil, Bool.and_true, beq_self_eq_true, List.length_cons, List.length_nil, Nat.zero_add, srcv, Nat.le_refl, List.take_succ_cons, List.take_zero, and_self, if_true, Nat.reduceAdd, Nat.reduceLT, eq_self, c52, ↓rd_strs, rds2o]
  refine call_rule hs ?_
  rintro lo' hi r g1 g2 ⟨k, rfl, hk⟩
  simp -dsimp only [↓SD, SP, ↓reduceIte, Nat.reduceEqDiff, ini, frz, rdAo, rd3o, rd2o, rdpo, rd1o, fnv, intv, VOp.dst, getRo, solEo, solo, solo1, allsz, List.all_cons, List.all_nil, Bool.and_true, beq_self_eq_true, List.length_cons, List.length_nil, Nat.zero_add, srcv, Nat.le_refl, List.take_succ_cons, List.take_zero, and_self, if_true, Nat.reduceAdd, Nat.reduceLT, eq_self, hk]
/-- impl.TextOk -/
theorem s18 (xs : List ByteArray) (h : okL xs) : OK Go.Proofs.Try.prog 41 [strs xs] (fun _ _ r => r = .bool (textOk xs)) := by
  refine fn_ok k41 rfl ?_
  have hs := s55 (fun s => !lineOk s) 53 xs h (fun s hs => s56 s (h.2 s hs))
  generalize OK Go.Proofs.Try.prog = L at hs ⊢
  intro lo
  by_cases hl : (xs.length : Int) ≤ 10
  · simp -dsimp only [↓SD, SP, ↓reduceIte, Nat.reduceEqDiff, ini, frz, rdAo, rd3o, rd2o, rdpo, rd1o, fnv, intv, VOp.dst, getRo, solEo, solo, solo1, allsz, List.all_cons, List.all_nil, Bool.and_true, beq_self_eq_true, List.length_cons, List.length_nil, Nat.zero_add, srcv, Nat.le_refl, List.take_succ_cons, List.take_zero, and_self, if_true, Nat.reduceAdd, Nat.reduceLT, eq_self, c41, ↓rd_strs, rds2o, l_strs, hl]
    refine call_rule hs ?_
    rintro lo' hi r g1 g2 rfl
    simp -dsimp only [↓SD, SP, ↓reduceIte, Nat.reduceEqDiff, ini, frz, rdAo, rd3o, rd2o, rdpo, rd1o, fnv, intv, VOp.dst, getRo, solEo, solo, solo1, allsz, List.all_cons, List.all_nil, Bool.and_true, beq_self_eq_true, List.length_cons, List.length_nil, Nat.zero_add, srcv, Nat.le_refl, List.take_succ_cons, List.take_zero, and_self, if_true, Nat.reduceAdd, Nat.reduceLT, eq_self]
    simp [textOk, show xs.length ≤ 10 by omega, List.any_eq_not_all_not]
  · simp -dsimp only [↓SD, SP, ↓reduceIte, Nat.reduceEqDiff, ini, frz, rdAo, rd3o, rd2o, rdpo, rd1o, fnv, intv, VOp.dst, getRo, solEo, solo, solo1, allsz, List.all_cons, List.all_nil, Bool.and_true, beq_self_eq_true, List.length_cons, List.length_nil, Nat.zero_add, srcv, Nat.le_refl, List.take_succ_cons, List.take_zero, and_self, if_true, Nat.reduceAdd, Nat.reduceLT, eq_self, c41, l_strs, hl]
    simp [textOk, show ¬ xs.length ≤ 10 by omega]
/-- laws.eqStringS -/
theorem s49 (xs ys : List ByteArray) (h : xs.length ≤ 10000000) : OK Go.Proofs.Try.prog 28 [strs xs, strs ys] (fun _ _ r => r = .bool (decide (xs = ys))) := by
  refine fn_ok k28 rfl ?_
  generalize OK Go.Proofs.Try.prog = L
  intro lo
  by_cases hl : (xs.length : Int) = ys.length
  · have hl' : xs.length = ys.length := by omega
    simp -dsimp only [↓SD, SP, ↓reduceIte, Nat.reduceEqDiff, ini, frz, rdAo, rd3o, rd2o, rdpo, rd1o, fnv, intv, VOp.dst, getRo, solEo, solo, solo1, allsz, List.all_cons, List.all_nil, Bool.and_true, beq_self_eq_true, List.length_cons, List.length_nil, Nat.zero_add, srcv, Nat.le_refl, List.take_succ_cons, List.take_zero, and_self, if_true, Nat.reduceAdd, Nat.reduceLT, eq_self, c28, l_strs, hl]
    refine loop_rule (fun m E H n => ∃ i : Nat, m + i = xs.length ∧ E 0 = strs xs ∧ E 1 = strs ys ∧ E 5 = .int .i64 i ∧ xs.take i = ys.take i)
      (fun e E H n => (e = .exit 0 ∧ xs = ys) ∨ (e = .ret ∧ E 4 = .bool false ∧ xs ≠ ys)) xs.length ⟨0, rfl, rfl, rfl, rfl, rfl⟩ ?_ ?_
    · rintro e E H n (⟨rfl, rfl⟩ | ⟨rfl, h2, h3⟩)
      · simp -dsimp only [↓SD, SP, ↓reduceIte, Nat.reduceEqDiff, ini, frz, rdAo, rd3o, rd2o, rdpo, rd1o, fnv, intv, VOp.dst, getRo, solEo, solo, solo1, allsz, List.all_cons, List.all_nil, Bool.and_true, beq_self_eq_true, List.length_cons, List.length_nil, Nat.zero_add, srcv, Nat.le_refl, List.take_succ_cons, List.take_zero, and_self, if_true, Nat.reduceAdd, Nat.reduceLT, eq_self]
      · simp -dsimp only [↓SD, SP, ↓reduceIte, Nat.reduceEqDiff, ini, frz, rdAo, rd3o, rd2o, rdpo, rd1o, fnv, intv, VOp.dst, getRo, solEo, solo, solo1, allsz, List.all_cons, List.all_nil, Bool.and_true, beq_self_eq_true, List.length_cons, List.length_nil, Nat.zero_add, srcv, Nat.le_refl, List.take_succ_cons, List.take_zero, and_self, if_true, Nat.reduceAdd, Nat.reduceLT, eq_self, h2]
        simp [h3]
    · rintro m E H n Q K ⟨i, hm, h0, h1, h5, hp⟩ hQ hK
      by_cases hi : i < xs.length
      · have hj : i < ys.length := by omega
        by_cases he : xs[i] = ys[i]
        · simp -dsimp only [↓SD, SP, ↓reduceIte, Nat.reduceEqDiff, ini, frz, rdAo, rd3o, rd2o, rdpo, rd1o, fnv, intv, VOp.dst, getRo, solEo, solo, solo1, allsz, List.all_cons, List.all_nil, Bool.and_true, beq_self_eq_true, List.length_cons, List.length_nil, Nat.zero_add, srcv, Nat.le_refl, List.take_succ_cons, List.take_zero, and_self, if_true, Nat.reduceAdd, Nat.reduceLT, eq_self, h0, h1, h5, l_strs, Int.ofNat_lt, hi, x_strs _ _ hi, x_strs _ _ hj, he, wrap64 ((i : Int) + 1) (by omega)]
          refine hK (m - 1) _ _ _ (by omega) ⟨i + 1, by omega, ?_, ?_, ?_, ?_⟩
          · simp -dsimp only [↓SD, SP, ↓reduceIte, Nat.reduceEqDiff, ini, frz, rdAo, rd3o, rd2o, rdpo, rd1o, fnv, intv, VOp.dst, getRo, solEo, solo, solo1, allsz, List.all_cons, List.all_nil, Bool.and_true, beq_self_eq_true, List.length_cons, List.length_nil, Nat.zero_add, srcv, Nat.le_refl, List.take_succ_cons, List.take_zero, and_self, if_true, Nat.reduceAdd, Nat.reduceLT, eq_self, h0]
          · simp -dsimp only [↓SD, SP, ↓reduceIte, Nat.reduceEqDiff, ini, frz, rdAo, rd3o, rd2o, rdpo, rd1o, fnv, intv, VOp.dst, getRo, solEo, solo, solo1, allsz, List.all_cons, List.all_nil, Bool.and_true, beq_self_eq_true, List.length_cons, List.length_nil, Nat.zero_add, srcv, Nat.le_refl, List.take_succ_cons, List.take_zero, and_self, if_true, Nat.reduceAdd, Nat.reduceLT, eq_self, h1]
          · simp -dsimp only [↓SD, SP, ↓reduceIte, Nat.reduceEqDiff, ini, frz, rdAo, rd3o, rd2o, rdpo, rd1o, fnv, intv, VOp.dst, getRo, solEo, solo, solo1, allsz, List.all_cons, List.all_nil, Bool.and_true, beq_self_eq_true, List.length_cons, List.length_nil, Nat.zero_add, srcv, Nat.le_refl, List.take_succ_cons, List.take_zero, and_self, if_true, Nat.reduceAdd, Nat.reduceLT, eq_self, Int.natCast_add, Int.natCast_one]
          · rw [List.take_succ_eq_append_getElem hi, List.take_succ_eq_append_getElem hj, hp, he]
        · simp -dsimp only [↓SD, SP, ↓reduceIte, Nat.reduceEqDiff, ini, frz, rdAo, rd3o, rd2o, rdpo, rd1o, fnv, intv, VOp.dst, getRo, solEo, solo, solo1, allsz, List.all_cons, List.all_nil, Bool.and_true, beq_self_eq_true, List.length_cons, List.length_nil, Nat.zero_add, srcv, Nat.le_refl, List.take_succ_cons, List.take_zero, and_self, if_true, Nat.reduceAdd, Nat.reduceLT, eq_self, h0, h1, h5, l_strs, Int.ofNat_lt, hi, x_strs _ _ hi, x_strs _ _ hj, he]
          refine hQ _ _ _ _ (.inr ⟨rfl, ?_, fun e => he (by subst e; rfl)⟩)
          simp -dsimp only [↓SD, SP, ↓reduceIte, Nat.reduceEqDiff, ini, frz, rdAo, rd3o, rd2o, rdpo, rd1o, fnv, intv, VOp.dst, getRo, solEo, solo, solo1, allsz, List.all_cons, List.all_nil, Bool.and_true, beq_self_eq_true, List.length_cons, List.length_nil, Nat.zero_add, srcv, Nat.le_refl, List.take_succ_cons, List.take_zero, and_self, if_true, Nat.reduceAdd, Nat.reduceLT, eq_self]
      · simp -dsimp only [↓SD, SP, ↓reduceIte, Nat.reduceEqDiff, ini, frz, rdAo, rd3o, rd2o, rdpo, rd1o, fnv, intv, VOp.dst, getRo, solEo, solo, solo1, allsz, List.all_cons, List.all_nil, Bool.and_true, beq_self_eq_true, List.length_cons, List.length_nil, Nat.zero_add, srcv, Nat.le_refl, List.take_succ_cons, List.take_zero, and_self, if_true, Nat.reduceAdd, Nat.reduceLT, eq_self, h0, h1, h5, l_strs, Int.ofNat_lt, hi]
        refine hQ _ _ _ _ (.inl ⟨rfl, ?_⟩)
        rwa [List.take_of_length_le (by omega), List.take_of_length_le (by omega)] at hp
  · simp -dsimp only [↓SD, SP, ↓reduceIte, Nat.reduceEqDiff, ini, frz, rdAo, rd3o, rd2o, rdpo, rd1o, fnv, intv, VOp.dst, getRo, solEo, solo, solo1, allsz, List.all_cons, List.all_nil, Bool.and_true, beq_self_eq_true, List.length_cons, List.length_nil, Nat.zero_add, srcv, Nat.le_refl, List.take_succ_cons, List.take_zero, and_self, if_true, Nat.reduceAdd, Nat.reduceLT, eq_self, c28, l_strs, hl]
    simp [show xs ≠ ys from fun e => hl (by rw [e])]
/-- laws.szStringS -/
def szs (xs : List ByteArray) : Nat := (xs.map ByteArray.size).sum
theorem s15 (xs : List ByteArray) (k : Nat) (hk : k ≤ 1000000) (h : xs.length ≤ 9223372036854775807 ∧ ∀ s ∈ xs, s.size ≤ 9223372036854775807) :
    OK Go.Proofs.Try.prog 5 [strs xs, .int .i64 k] (fun _ _ r => ∃ i : Int, r = .int .i64 i ∧ (0 ≤ i → i + xs.length + szs xs = k)) := by
  refine fn_ok k5 rfl ?_
  generalize OK Go.Proofs.Try.prog = L
  intro lo
  have hk2 := h.1
  by_cases hl : (k : Int) - xs.length < 0
  · simp -dsimp only [↓SD, SP, ↓reduceIte, Nat.reduceEqDiff, ini, frz, rdAo, rd3o, rd2o, rdpo, rd1o, fnv, intv, VOp.dst, getRo, solEo, solo, solo1, allsz, List.all_cons, List.all_nil, Bool.and_true, beq_self_eq_true, List.length_cons, List.length_nil, Nat.zero_add, srcv, Nat.le_refl, List.take_succ_cons, List.take_zero, and_self, if_true, Nat.reduceAdd, Nat.reduceLT, eq_self, c5, l_strs, wrap64 ((k : Int) - xs.length) (by omega), hl]
    exact ⟨_, rfl, by omega⟩
  · simp -dsimp only [↓SD, SP, ↓reduceIte, Nat.reduceEqDiff, ini, frz, rdAo, rd3o, rd2o, rdpo, rd1o, fnv, intv, VOp.dst, getRo, solEo, solo, solo1, allsz, List.all_cons, List.all_nil, Bool.and_true, beq_self_eq_true, List.length_cons, List.length_nil, Nat.zero_add, srcv, Nat.le_refl, List.take_succ_cons, List.take_zero, and_self, if_true, Nat.reduceAdd, Nat.reduceLT, eq_self, c5, l_strs, wrap64 ((k : Int) - xs.length) (by omega), hl]
    refine loop_rule (fun m E H n => ∃ (i : Nat) (v : Nat), m + i = xs.length ∧ E 0 = strs xs ∧ E 1 = .int .i64 v ∧ E 5 = .int .i64 i ∧ v + xs.length + szs (xs.take i) = k)
      (fun e E H n => (e = .exit 0 ∧ ∃ i : Int, E 1 = .int .i64 i ∧ (0 ≤ i → i + xs.length + szs xs = k)) ∨ (e = .ret ∧ E 4 = .int .i64 (-1))) xs.length ⟨0, k - xs.length, rfl, rfl, ?_, rfl, ?_⟩ ?_ ?_
    · simp -dsimp only [↓SD, SP, ↓reduceIte, Nat.reduceEqDiff, ini, frz, rdAo, rd3o, rd2o, rdpo, rd1o, fnv, intv, VOp.dst, getRo, solEo, solo, solo1, allsz, List.all_cons, List.all_nil, Bool.and_true, beq_self_eq_true, List.length_cons, List.length_nil, Nat.zero_add, srcv, Nat.le_refl, List.take_succ_cons, List.take_zero, and_self, if_true, Nat.reduceAdd, Nat.reduceLT, eq_self, show ((k - xs.length : Nat) : Int) = (k : Int) - xs.length by omega]
    · simp [szs]; omega
    · rintro e E H n (⟨rfl, i, h1, h2⟩ | ⟨rfl, h2⟩)
      · simp -dsimp only [↓SD, SP, ↓reduceIte, Nat.reduceEqDiff, ini, frz, rdAo, rd3o, rd2o, rdpo, rd1o, fnv, intv, VOp.dst, getRo, solEo, solo, solo1, allsz, List.all_cons, List.all_nil, Bool.and_true, beq_self_eq_true, List.length_cons, List.length_nil, Nat.zero_add, srcv, Nat.le_refl, List.take_succ_cons, List.take_zero, and_self, if_true, Nat.reduceAdd, Nat.reduceLT, eq_self, h1]
        exact ⟨_, rfl, h2⟩
      · simp -dsimp only [↓SD, SP, ↓reduceIte, Nat.reduceEqDiff, ini, frz, rdAo, rd3o, rd2o, rdpo, rd1o, fnv, intv, VOp.dst, getRo, solEo, solo, solo1, allsz, List.all_cons, List.all_nil, Bool.and_true, beq_self_eq_true, List.length_cons, List.length_nil, Nat.zero_add, srcv, Nat.le_refl, List.take_succ_cons, List.take_zero, and_self, if_true, Nat.reduceAdd, Nat.reduceLT, eq_self, h2]
        exact ⟨_, rfl, by omega⟩
    · rintro m E H n Q K ⟨i, v, hm, h0, h1, h5, hp⟩ hQ hK
      by_cases hi : i < xs.length
      · have hsz := h.2 xs[i] (List.getElem_mem hi)
        have hst : szs (xs.take (i + 1)) = szs (xs.take i) + xs[i].size := by
          rw [List.take_succ_eq_append_getElem hi]
          simp only [szs, List.map_append, List.sum_append, List.map_cons, List.map_nil, List.sum_cons, List.sum_nil, Nat.add_zero]
        by_cases hneg : (v : Int) - xs[i].size < 0
        · simp -dsimp only [↓SD, SP, ↓reduceIte, Nat.reduceEqDiff, ini, frz, rdAo, rd3o, rd2o, rdpo, rd1o, fnv, intv, VOp.dst, getRo, solEo, solo, solo1, allsz, List.all_cons, List.all_nil, Bool.and_true, beq_self_eq_true, List.length_cons, List.length_nil, Nat.zero_add, srcv, Nat.le_refl, List.take_succ_cons, List.take_zero, and_self, if_true, Nat.reduceAdd, Nat.reduceLT, eq_self, h0, h1, h5, l_strs, Int.ofNat_lt, hi, x_strs _ _ hi, wrap64 ((v : Int) - xs[i].size) (by omega), hneg]
          refine hQ _ _ _ _ (.inr ⟨rfl, ?_⟩)
          simp -dsimp only [↓SD, SP, ↓reduceIte, Nat.reduceEqDiff, ini, frz, rdAo, rd3o, rd2o, rdpo, rd1o, fnv, intv, VOp.dst, getRo, solEo, solo, solo1, allsz, List.all_cons, List.all_nil, Bool.and_true, beq_self_eq_true, List.length_cons, List.length_nil, Nat.zero_add, srcv, Nat.le_refl, List.take_succ_cons, List.take_zero, and_self, if_true, Nat.reduceAdd, Nat.reduceLT, eq_self]
        · simp -dsimp only [↓SD, SP, ↓reduceIte, Nat.reduceEqDiff, ini, frz, rdAo, rd3o, rd2o, rdpo, rd1o, fnv, intv, VOp.dst, getRo, solEo, solo, solo1, allsz, List.all_cons, List.all_nil, Bool.and_true, beq_self_eq_true, List.length_cons, List.length_nil, Nat.zero_add, srcv, Nat.le_refl, List.take_succ_cons, List.take_zero, and_self, if_true, Nat.reduceAdd, Nat.reduceLT, eq_self, h0, h1, h5, l_strs, Int.ofNat_lt, hi, x_strs _ _ hi, wrap64 ((v : Int) - xs[i].size) (by omega), hneg, wrap64 ((i : Int) + 1) (by omega)]
          refine hK (m - 1) _ _ _ (by omega) ⟨i + 1, v - xs[i].size, by omega, ?_, ?_, ?_, by omega⟩
          · simp -dsimp only [↓SD, SP, ↓reduceIte, Nat.reduceEqDiff, ini, frz, rdAo, rd3o, rd2o, rdpo, rd1o, fnv, intv, VOp.dst, getRo, solEo, solo, solo1, allsz, List.all_cons, List.all_nil, Bool.and_true, beq_self_eq_true, List.length_cons, List.length_nil, Nat.zero_add, srcv, Nat.le_refl, List.take_succ_cons, List.take_zero, and_self, if_true, Nat.reduceAdd, Nat.reduceLT, eq_self, h0]
          · simp -dsimp only [↓SD, SP, ↓reduceIte, Nat.reduceEqDiff, ini, frz, rdAo, rd3o, rd2o, rdpo, rd1o, fnv, intv, VOp.dst, getRo, solEo, solo, solo1, allsz, List.all_cons, List.all_nil, Bool.and_true, beq_self_eq_true, List.length_cons, List.length_nil, Nat.zero_add, srcv, Nat.le_refl, List.take_succ_cons, List.take_zero, and_self, if_true, Nat.reduceAdd, Nat.reduceLT, eq_self, show ((v - xs[i].size : Nat) : Int) = (v : Int) - xs[i].size by omega]
          · simp -dsimp only [↓SD, SP, ↓reduceIte, Nat.reduceEqDiff, ini, frz, rdAo, rd3o, rd2o, rdpo, rd1o, fnv, intv, VOp.dst, getRo, solEo, solo, solo1, allsz, List.all_cons, List.all_nil, Bool.and_true, beq_self_eq_true, List.length_cons, List.length_nil, Nat.zero_add, srcv, Nat.le_refl, List.take_succ_cons, List.take_zero, and_self, if_true, Nat.reduceAdd, Nat.reduceLT, eq_self, Int.natCast_add, Int.natCast_one]
      · simp -dsimp only [↓SD, SP, ↓reduceIte, Nat.reduceEqDiff, ini, frz, rdAo, rd3o, rd2o, rdpo, rd1o, fnv, intv, VOp.dst, getRo, solEo, solo, solo1, allsz, List.all_cons, List.all_nil, Bool.and_true, beq_self_eq_true, List.length_cons, List.length_nil, Nat.zero_add, srcv, Nat.le_refl, List.take_succ_cons, List.take_zero, and_self, if_true, Nat.reduceAdd, Nat.reduceLT, eq_self, h0, h1, h5, l_strs, Int.ofNat_lt, hi]
        refine hQ _ _ _ _ (.inl ⟨rfl, v, h1, fun _ => ?_⟩)
        rw [List.take_of_length_le (by omega)] at hp
        omega
/-- laws.intactStringS -/
theorem s19 (n : Nat) (ys zs : List ByteArray) (hn : n ≤ 1000000) (hy : ys.length = n + rm n) (hz : zs.length = n + rm n) :
    OK Go.Proofs.Try.prog 12 [.lsl none n (ys.map .str), .lsl none n (zs.map .str)] (fun _ _ r => r = .bool (decide (ys = zs))) := by
  refine fn_ok k12 rfl ?_
  have hrm := rm_le n
  have h54 := s54 n hn
  have h49 := s49 ys zs (by omega)
  generalize OK Go.Proofs.Try.prog = L at h54 h49 ⊢
  intro lo
  simp -dsimp only [↓SD, SP, ↓reduceIte, Nat.reduceEqDiff, ini, frz, rdAo, rd3o, rd2o, rdpo, rd1o, fnv, intv, VOp.dst, getRo, solEo, solo, solo1, allsz, List.all_cons, List.all_nil, Bool.and_true, beq_self_eq_true, List.length_cons, List.length_nil, Nat.zero_add, srcv, Nat.le_refl, List.take_succ_cons, List.take_zero, and_self, if_true, Nat.reduceAdd, Nat.reduceLT, eq_self, c12]
  refine call_rule h54 ?_
  rintro lo' hi r g1 g2 rfl
  have e1 : slcv (fun _ => none) 1 (.lsl none n (ys.map .str)) none (some (.int .i64 ((n : Int) + rm n))) = some (strs ys) := by
    simp [slcv, strs, hy, show ((n : Int) + rm n).toNat = n + rm n by omega]
    omega
  have e2 : slcv (fun _ => none) 1 (.lsl none n (zs.map .str)) none (some (.int .i64 ((n : Int) + rm n))) = some (strs zs) := by
    simp [slcv, strs, hz, show ((n : Int) + rm n).toNat = n + rm n by omega]
    omega
  simp -dsimp only [↓SD, SP, ↓reduceIte, Nat.reduceEqDiff, ini, frz, rdAo, rd3o, rd2o, rdpo, rd1o, fnv, intv, VOp.dst, getRo, solEo, solo, solo1, allsz, List.all_cons, List.all_nil, Bool.and_true, beq_self_eq_true, List.length_cons, List.length_nil, Nat.zero_add, srcv, Nat.le_refl, List.take_succ_cons, List.take_zero, and_self, if_true, Nat.reduceAdd, Nat.reduceLT, eq_self, wrap64 ((n : Int) + rm n) (by omega), e1, e2, ↓rd_strs]
  refine call_rule h49 ?_
  rintro lo' hi r g1 g2 rfl
  simp -dsimp only [↓SD, SP, ↓reduceIte, Nat.reduceEqDiff, ini, frz, rdAo, rd3o, rd2o, rdpo, rd1o, fnv, intv, VOp.dst, getRo, solEo, solo, solo1, allsz, List.all_cons, List.all_nil, Bool.and_true, beq_self_eq_true, List.length_cons, List.length_nil, Nat.zero_add, srcv, Nat.le_refl, List.take_succ_cons, List.take_zero, and_self, if_true, Nat.reduceAdd, Nat.reduceLT, eq_self]
end Go.AVM

set_option linter.unusedSimpArgs false
namespace Go.AVM
theorem okL_of {xs : List ByteArray} {k : Nat} (hk : k ≤ 1000000) {i : Int} (hi : 0 ≤ i) (h : i + xs.length + szs xs = k) : okL xs := by
  refine ⟨by omega, fun s hs => ?_⟩
  have : s.size ≤ szs xs := by
    unfold szs
    clear h
    induction xs with
    | nil => cases hs
    | cons x xs ih =>
      rw [List.map_cons, List.sum_cons]
      rcases List.mem_cons.1 hs with rfl | hs
      · omega
      · have := ih hs
        omega
  omega
theorem roomy_len (xs : List ByteArray) : (roomy xs).length = xs.length + rm xs.length := by simp [roomy]
/-- what a callee reads of a list with room behind it -/
theorem rd_roomy (H : Hp) (t : Option (Nat × Nat)) (xs : List ByteArray) : rd3o false H (.lsl t xs.length ((roomy xs).map .str)) = some (strs xs, []) := by
  simp [strs, rd3o, rd2o, rdpo, rd1o, roomy]
theorem rd_roomyT (H : Hp) (t : Option (Nat × Nat)) (xs : List ByteArray) : rd3o true H (.lsl t xs.length ((roomy xs).map .str)) = some (.lsl none xs.length ((roomy xs).map .str), []) := by
  simp [rd3o, rd2o, rdpo, rd1o]
theorem rd_emp (H : Hp) : rd3o false H .emp = some (strs [], []) := by
  simp [strs, rd3o, rd2o, rdpo, rd1o]
end Go.AVM

/- How many lines two lists have together at most, in order: whichever end one begins at. -/
namespace Go.AVM
set_option linter.unusedSimpArgs false
set_option linter.unusedVariables false
section
variable {α : Type} [DecidableEq α]
def lc : List α → List α → Nat
  | [], _ => 0
  | _ :: _, [] => 0
  | x :: xs, y :: ys => if x = y then lc xs ys + 1 else max (lc xs (y :: ys)) (lc (x :: xs) ys)
termination_by a b => a.length + b.length

theorem lc_nil (b : List α) : lc [] b = 0 := by unfold lc; rfl
theorem lc_nil2 (a : List α) : lc a [] = 0 := by
  cases a <;> unfold lc <;> rfl
theorem lc_cons (x y : α) (xs ys : List α) : lc (x :: xs) (y :: ys) = if x = y then lc xs ys + 1 else max (lc xs (y :: ys)) (lc (x :: xs) ys) := by
  rw [lc]
theorem lc_ex : ∀ a b : List α, ∃ c : List α, c.Sublist a ∧ c.Sublist b ∧ c.length = lc a b
  | [], b => ⟨[], List.nil_sublist _, List.nil_sublist _, by rw [lc_nil]; rfl⟩
  | x :: xs, [] => ⟨[], List.nil_sublist _, List.nil_sublist _, by rw [lc_nil2]; rfl⟩
  | x :: xs, y :: ys => by
    rw [lc_cons]
    by_cases h : x = y
    · subst h
      obtain ⟨c, h1, h2, h3⟩ := lc_ex xs ys
      exact ⟨x :: c, h1.cons_cons x, h2.cons_cons x, by rw [if_pos rfl, List.length_cons, h3]⟩
    · rw [if_neg h]
      rcases Nat.le_total (lc xs (y :: ys)) (lc (x :: xs) ys) with hl | hl
      · obtain ⟨c, h1, h2, h3⟩ := lc_ex (x :: xs) ys
        exact ⟨c, h1, h2.cons y, by rw [h3, Nat.max_eq_right hl]⟩
      · obtain ⟨c, h1, h2, h3⟩ := lc_ex xs (y :: ys)
        exact ⟨c, h1.cons x, h2, by rw [h3, Nat.max_eq_left hl]⟩
termination_by a b => a.length + b.length
theorem lc_most : ∀ (a b c : List α), c.Sublist a → c.Sublist b → c.length ≤ lc a b
  | [], b, c, h1, _ => by rw [List.sublist_nil.1 h1]; exact Nat.zero_le _
  | x :: xs, [], c, _, h2 => by rw [List.sublist_nil.1 h2]; exact Nat.zero_le _
  | x :: xs, y :: ys, c, h1, h2 => by
    rw [lc_cons]
    cases c with
    | nil => exact Nat.zero_le _
    | cons z cs =>
      by_cases h : x = y
      · subst h
        rw [if_pos rfl, List.length_cons]
        have g1 : cs.Sublist xs := by
          rcases List.sublist_cons_iff.1 h1 with h1 | ⟨r, hr, h1⟩
          · exact (List.sublist_cons_self z cs).trans h1
          · obtain ⟨rfl, rfl⟩ : z = x ∧ cs = r := by simpa using hr
            exact h1
        have g2 : cs.Sublist ys := by
          rcases List.sublist_cons_iff.1 h2 with h2 | ⟨r, hr, h2⟩
          · exact (List.sublist_cons_self z cs).trans h2
          · obtain ⟨_, rfl⟩ : z = x ∧ cs = r := by simpa using hr
            exact h2
        exact Nat.succ_le_succ (lc_most xs ys cs g1 g2)
      · rw [if_neg h]
        rcases List.sublist_cons_iff.1 h1 with h1' | ⟨r, hr, h1'⟩
        · exact Nat.le_trans (lc_most xs (y :: ys) _ h1' h2) (Nat.le_max_left _ _)
        · rcases List.sublist_cons_iff.1 h2 with h2' | ⟨r', hr', h2'⟩
          · exact Nat.le_trans (lc_most (x :: xs) ys _ h1 h2') (Nat.le_max_right _ _)
          · exfalso
            have e1 : z = x := by simpa using congrArg List.head? hr
            have e2 : z = y := by simpa using congrArg List.head? hr'
            exact h (e1.symm.trans e2)
termination_by a b => a.length + b.length
theorem lc_rev (a b : List α) : lc a.reverse b.reverse = lc a b := by
  apply Nat.le_antisymm
  · obtain ⟨c, h1, h2, h3⟩ := lc_ex a.reverse b.reverse
    have := lc_most a b c.reverse (by simpa using h1.reverse) (by simpa using h2.reverse)
    rw [List.length_reverse] at this
    omega
  · obtain ⟨c, h1, h2, h3⟩ := lc_ex a b
    have := lc_most a.reverse b.reverse c.reverse h1.reverse h2.reverse
    rw [List.length_reverse] at this
    omega
theorem lc_le (a b : List α) : lc a b ≤ a.length := by
  obtain ⟨c, h1, h2, h3⟩ := lc_ex a b
  rw [← h3]
  exact h1.length_le
theorem lc_le2 (a b : List α) : lc a b ≤ b.length := by
  obtain ⟨c, h1, h2, h3⟩ := lc_ex a b
  rw [← h3]
  exact h2.length_le
/-- from the end on -/
def lf (a b : List α) (i j : Nat) : Nat := lc (a.take i).reverse (b.take j).reverse
theorem lf_zero (a b : List α) (j : Nat) : lf a b 0 j = 0 := by simp [lf, lc_nil]
theorem lf_zero2 (a b : List α) (i : Nat) : lf a b i 0 = 0 := by simp [lf, lc_nil2]
theorem lf_step (a b : List α) (i j : Nat) (hi : i < a.length) (hj : j < b.length) : lf a b (i + 1) (j + 1) = if a[i] = b[j] then lf a b i j + 1 else max (lf a b i (j + 1)) (lf a b (i + 1) j) := by
  simp only [lf, List.take_succ_eq_append_getElem hi, List.take_succ_eq_append_getElem hj, List.reverse_append, List.reverse_cons, List.reverse_nil, List.nil_append, List.cons_append]
  rw [lc_cons]
theorem lf_all (a b : List α) : lf a b a.length b.length = lc a b := by simp [lf, lc_rev]
theorem lf_le (a b : List α) (i j : Nat) : lf a b i j ≤ a.length := by
  have := lc_le (a.take i).reverse (b.take j).reverse
  simp only [List.length_reverse, List.length_take] at this
  unfold lf
  omega
/-- from a place of both on -/
def lt (a b : List α) (i j : Nat) : Nat := lc (a.drop i) (b.drop j)
theorem lt_end (a b : List α) (i j : Nat) (h : a.length ≤ i) : lt a b i j = 0 := by simp [lt, List.drop_eq_nil_of_le h, lc_nil]
theorem lt_end2 (a b : List α) (i j : Nat) (h : b.length ≤ j) : lt a b i j = 0 := by simp [lt, List.drop_eq_nil_of_le h, lc_nil2]
theorem lt_step (a b : List α) (i j : Nat) (hi : i < a.length) (hj : j < b.length) : lt a b i j = if a[i] = b[j] then lt a b (i + 1) (j + 1) + 1 else max (lt a b (i + 1) j) (lt a b i (j + 1)) := by
  simp only [lt]
  rw [List.drop_eq_getElem_cons hi, List.drop_eq_getElem_cons hj, lc_cons]
theorem lt_le (a b : List α) (i j : Nat) : lt a b i j ≤ a.length := by
  have := lc_le (a.drop i) (b.drop j)
  simp only [List.length_drop] at this
  unfold lt
  omega
end
end Go.AVM

/- impl.lcs. -/
set_option linter.unusedSimpArgs false
set_option linter.unusedVariables false
namespace Go.AVM
abbrev iv (n : Nat) : AV := .int .i64 n
theorem x_ownI (d b s len : Nat) (z : Int) (i : Nat) (hz : z = i) (h : i < len) : idxAv s (.own d b s len) (.int .i64 z) = some (.optr d b s i none) := by
  subst hz
  exact x_own d b s len i h
theorem ld_map {α : Type} (e : α → AV) {H : Hp} {d b i : Nat} {ys : List α} {fz row ex : Bool} (hH : H d = some ⟨b, 1, ys.map e, fz, row, ex⟩) (hi : i < ys.length) (h1 : fitsz none (e ys[i]) = true) (h2 : (e ys[i]).sz = 1) :
    ldv H none (.optr d b 1 i none) = some (e ys[i]) := by
  have h5 : (ys.map e)[i]? = some (e ys[i]) := by simp [hi]
  simp only [ldv]
  rw [hH]
  simp [h5, h1, h2]
theorem ld_int {H : Hp} {d b i : Nat} {ys : List Nat} {fz row ex : Bool} (hH : H d = some ⟨b, 1, ys.map iv, fz, row, ex⟩) (hi : i < ys.length) : ldv H none (.optr d b 1 i none) = some (iv ys[i]) :=
  ld_map iv hH hi rfl rfl
theorem st_int {H : Hp} {d b i : Nat} {ys : List Nat} {row ex : Bool} {x : Nat} (hH : H d = some ⟨b, 1, ys.map iv, false, row, ex⟩) (hi : i < ys.length) :
    stv H none (.int .i64 x) (.optr d b 1 i none) = some (updH H d (some ⟨b, 1, (ys.set i x).map iv, false, row, ex⟩)) :=
  st_map iv hH hi rfl (fun _ => rfl) rfl rfl
theorem mx_int (a b : Nat) : mxv true (.int .i64 a) (.int .i64 b) = some (iv (max a b)) := by
  simp only [mxv, if_true]
  congr 2
  by_cases h : a < b
  · rw [if_pos (by omega), Nat.max_eq_right (by omega)]
  · rw [if_neg (by omega), Nat.max_eq_left (by omega)]
/-- a row of numbers -/
def tab (f : Nat → Nat) (m : Nat) : List Nat := (List.range m).map f
theorem tab_len (f : Nat → Nat) (m : Nat) : (tab f m).length = m := by simp [tab]
theorem tab_get (f : Nat → Nat) (m i : Nat) (h : i < (tab f m).length) : (tab f m)[i] = f i := by simp [tab]
theorem tab_set (f g : Nat → Nat) (m i x : Nat) (h : g i = x) (hne : ∀ j, j < m → j ≠ i → g j = f j) : (tab f m).set i x = tab g m := by
  apply List.ext_getElem?
  intro j
  rw [List.getElem?_set]
  simp only [tab, List.length_map, List.length_range, List.getElem?_map]
  by_cases hj : j < m
  · rw [List.getElem?_range hj]
    by_cases hij : i = j
    · subst hij
      simp [hj, h]
    · rw [if_neg hij]
      simp [hne j hj (fun e => hij e.symm)]
  · by_cases hij : i = j
    · subst hij
      simp [hj]
    · rw [if_neg hij]
      have : (List.range m)[j]? = none := List.getElem?_eq_none (by simpa using hj)
      simp [this]
theorem tab_ext (f g : Nat → Nat) (m : Nat) (h : ∀ j, j < m → f j = g j) : tab f m = tab g m := by
  apply List.ext_getElem
  · simp [tab]
  · intro i h1 h2
    rw [tab_get, tab_get]
    exact h i (by simpa [tab] using h1)
theorem rep_tab (m : Nat) : (List.replicate m (AV.int .i64 0)) = (tab (fun _ => 0) m).map iv := by
  apply List.ext_getElem
  · simp [tab]
  · intro i h1 h2
    simp [tab]

theorem s_lcs (xs ys : List ByteArray) (hx : xs.length ≤ 1000000) (hy : ys.length ≤ 1000000) : OK Go.Proofs.Try.prog 56 [strs xs, strs ys] (fun _ _ r => r = iv (lc xs ys)) := by
  refine fn_ok k56 rfl ?_
  generalize OK Go.Proofs.Try.prog = L
  intro lo
  simp -dsimp only [↓SD, SP, ↓reduceIte, Nat.reduceEqDiff, ini, frz, rdAo, rd3o, rd2o, rdpo, rd1o, fnv, intv, VOp.dst, getRo, solEo, solo, solo1, allsz, List.all_cons, List.all_nil, Bool.and_true, beq_self_eq_true, List.length_cons, List.length_nil, Nat.zero_add, srcv, Nat.le_refl, List.take_succ_cons, List.take_zero, and_self, if_true, Nat.reduceAdd, Nat.reduceLT, eq_self, c56, l_strs, wrap64 ((ys.length : Int) + 1) (by omega)]
  refine mk_at (by omega) ?_
  intro g hg
  simp -dsimp only [↓SD, SP, ↓reduceIte, Nat.reduceEqDiff, ini, frz, rdAo, rd3o, rd2o, rdpo, rd1o, fnv, intv, VOp.dst, getRo, solEo, solo, solo1, allsz, List.all_cons, List.all_nil, Bool.and_true, beq_self_eq_true, List.length_cons, List.length_nil, Nat.zero_add, srcv, Nat.le_refl, List.take_succ_cons, List.take_zero, and_self, if_true, Nat.reduceAdd, Nat.reduceLT, eq_self, show ((ys.length : Int) + 1).toNat = ys.length + 1 by omega, l_strs]
  refine loop_rule (fun m E H n => ∃ i : Nat, m + i = xs.length ∧ E 1 = strs ys ∧ E 16 = strs xs ∧ E 17 = iv xs.length ∧ E 18 = iv i ∧ E 5 = .own 15 g 1 (ys.length + 1) ∧ H 15 = some ⟨g, 1, (tab (lf xs ys i) (ys.length + 1)).map iv, false, true, true⟩)
    (fun e E H n => e = .exit 0 ∧ E 1 = strs ys ∧ E 5 = .own 15 g 1 (ys.length + 1) ∧ H 15 = some ⟨g, 1, (tab (lf xs ys xs.length) (ys.length + 1)).map iv, false, true, true⟩) xs.length ⟨0, rfl, rfl, rfl, rfl, rfl, rfl, ?_⟩ ?_ ?_
  · simp -dsimp only [↓SD, SP, ↓reduceIte, Nat.reduceEqDiff, ini, frz, rdAo, rd3o, rd2o, rdpo, rd1o, fnv, intv, VOp.dst, getRo, solEo, solo, solo1, allsz, List.all_cons, List.all_nil, Bool.and_true, beq_self_eq_true, List.length_cons, List.length_nil, Nat.zero_add, srcv, Nat.le_refl, List.take_succ_cons, List.take_zero, and_self, if_true, Nat.reduceAdd, Nat.reduceLT, eq_self, show ((ys.length : Int) + 1).toNat = ys.length + 1 by omega]
    rw [rep_tab, tab_ext (fun _ => 0) (lf xs ys 0) _ fun j _ => (lf_zero xs ys j).symm]
  · rintro e E H n ⟨rfl, h1, h5, hH⟩
    have hl := ld_int hH (i := ys.length) (by rw [tab_len]; omega)
    rw [tab_get, lf_all] at hl
    simp -dsimp only [↓SD, SP, ↓reduceIte, Nat.reduceEqDiff, ini, frz, rdAo, rd3o, rd2o, rdpo, rd1o, fnv, intv, VOp.dst, getRo, solEo, solo, solo1, allsz, List.all_cons, List.all_nil, Bool.and_true, beq_self_eq_true, List.length_cons, List.length_nil, Nat.zero_add, srcv, Nat.le_refl, List.take_succ_cons, List.take_zero, and_self, if_true, Nat.reduceAdd, Nat.reduceLT, eq_self, h1, h5, l_strs, x_own, Nat.lt_succ_self, hl]
  · rintro m E H n Q K ⟨i, hm, h1, h16, h17, h18, h5, hH⟩ hQ hK
    by_cases hi : i < xs.length
    · simp -dsimp only [↓SD, SP, ↓reduceIte, Nat.reduceEqDiff, ini, frz, rdAo, rd3o, rd2o, rdpo, rd1o, fnv, intv, VOp.dst, getRo, solEo, solo, solo1, allsz, List.all_cons, List.all_nil, Bool.and_true, beq_self_eq_true, List.length_cons, List.length_nil, Nat.zero_add, srcv, Nat.le_refl, List.take_succ_cons, List.take_zero, and_self, if_true, Nat.reduceAdd, Nat.reduceLT, eq_self, h1, h16, h17, h18, h5, Int.ofNat_lt, hi, x_strs _ _ hi, l_strs]
      refine loop_rule (fun m E H n => ∃ k : Nat, m + k = ys.length ∧ E 1 = strs ys ∧ E 16 = strs xs ∧ E 17 = iv xs.length ∧ E 18 = iv i ∧ E 5 = .own 15 g 1 (ys.length + 1) ∧ E 7 = .str xs[i] ∧ E 8 = iv (lf xs ys i k) ∧ E 22 = strs ys ∧ E 23 = iv ys.length ∧ E 24 = iv k ∧
            H 15 = some ⟨g, 1, (tab (fun j => if j ≤ k then lf xs ys (i + 1) j else lf xs ys i j) (ys.length + 1)).map iv, false, true, true⟩)
        (fun e E H n => e = .exit 2 ∧ E 1 = strs ys ∧ E 16 = strs xs ∧ E 17 = iv xs.length ∧ E 18 = iv i ∧ E 5 = .own 15 g 1 (ys.length + 1) ∧ H 15 = some ⟨g, 1, (tab (lf xs ys (i + 1)) (ys.length + 1)).map iv, false, true, true⟩) ys.length ⟨0, rfl, ?_, ?_, ?_, ?_, ?_, ?_, ?_, ?_, ?_, ?_, ?_⟩ ?_ ?_
      · simp -dsimp only [↓SD, SP, ↓reduceIte, Nat.reduceEqDiff, ini, frz, rdAo, rd3o, rd2o, rdpo, rd1o, fnv, intv, VOp.dst, getRo, solEo, solo, solo1, allsz, List.all_cons, List.all_nil, Bool.and_true, beq_self_eq_true, List.length_cons, List.length_nil, Nat.zero_add, srcv, Nat.le_refl, List.take_succ_cons, List.take_zero, and_self, if_true, Nat.reduceAdd, Nat.reduceLT, eq_self, h1]
      · simp -dsimp only [↓SD, SP, ↓reduceIte, Nat.reduceEqDiff, ini, frz, rdAo, rd3o, rd2o, rdpo, rd1o, fnv, intv, VOp.dst, getRo, solEo, solo, solo1, allsz, List.all_cons, List.all_nil, Bool.and_true, beq_self_eq_true, List.length_cons, List.length_nil, Nat.zero_add, srcv, Nat.le_refl, List.take_succ_cons, List.take_zero, and_self, if_true, Nat.reduceAdd, Nat.reduceLT, eq_self, h16]
      · simp -dsimp only [↓SD, SP, ↓reduceIte, Nat.reduceEqDiff, ini, frz, rdAo, rd3o, rd2o, rdpo, rd1o, fnv, intv, VOp.dst, getRo, solEo, solo, solo1, allsz, List.all_cons, List.all_nil, Bool.and_true, beq_self_eq_true, List.length_cons, List.length_nil, Nat.zero_add, srcv, Nat.le_refl, List.take_succ_cons, List.take_zero, and_self, if_true, Nat.reduceAdd, Nat.reduceLT, eq_self, h17]
      · simp -dsimp only [↓SD, SP, ↓reduceIte, Nat.reduceEqDiff, ini, frz, rdAo, rd3o, rd2o, rdpo, rd1o, fnv, intv, VOp.dst, getRo, solEo, solo, solo1, allsz, List.all_cons, List.all_nil, Bool.and_true, beq_self_eq_true, List.length_cons, List.length_nil, Nat.zero_add, srcv, Nat.le_refl, List.take_succ_cons, List.take_zero, and_self, if_true, Nat.reduceAdd, Nat.reduceLT, eq_self, h18]
      · simp -dsimp only [↓SD, SP, ↓reduceIte, Nat.reduceEqDiff, ini, frz, rdAo, rd3o, rd2o, rdpo, rd1o, fnv, intv, VOp.dst, getRo, solEo, solo, solo1, allsz, List.all_cons, List.all_nil, Bool.and_true, beq_self_eq_true, List.length_cons, List.length_nil, Nat.zero_add, srcv, Nat.le_refl, List.take_succ_cons, List.take_zero, and_self, if_true, Nat.reduceAdd, Nat.reduceLT, eq_self, h5]
      · simp -dsimp only [↓SD, SP, ↓reduceIte, Nat.reduceEqDiff, ini, frz, rdAo, rd3o, rd2o, rdpo, rd1o, fnv, intv, VOp.dst, getRo, solEo, solo, solo1, allsz, List.all_cons, List.all_nil, Bool.and_true, beq_self_eq_true, List.length_cons, List.length_nil, Nat.zero_add, srcv, Nat.le_refl, List.take_succ_cons, List.take_zero, and_self, if_true, Nat.reduceAdd, Nat.reduceLT, eq_self]
      · simp -dsimp only [↓SD, SP, ↓reduceIte, Nat.reduceEqDiff, ini, frz, rdAo, rd3o, rd2o, rdpo, rd1o, fnv, intv, VOp.dst, getRo, solEo, solo, solo1, allsz, List.all_cons, List.all_nil, Bool.and_true, beq_self_eq_true, List.length_cons, List.length_nil, Nat.zero_add, srcv, Nat.le_refl, List.take_succ_cons, List.take_zero, and_self, if_true, Nat.reduceAdd, Nat.reduceLT, eq_self, lf_zero2]
        rfl
      · simp -dsimp only [↓SD, SP, ↓reduceIte, Nat.reduceEqDiff, ini, frz, rdAo, rd3o, rd2o, rdpo, rd1o, fnv, intv, VOp.dst, getRo, solEo, solo, solo1, allsz, List.all_cons, List.all_nil, Bool.and_true, beq_self_eq_true, List.length_cons, List.length_nil, Nat.zero_add, srcv, Nat.le_refl, List.take_succ_cons, List.take_zero, and_self, if_true, Nat.reduceAdd, Nat.reduceLT, eq_self]
      · simp -dsimp only [↓SD, SP, ↓reduceIte, Nat.reduceEqDiff, ini, frz, rdAo, rd3o, rd2o, rdpo, rd1o, fnv, intv, VOp.dst, getRo, solEo, solo, solo1, allsz, List.all_cons, List.all_nil, Bool.and_true, beq_self_eq_true, List.length_cons, List.length_nil, Nat.zero_add, srcv, Nat.le_refl, List.take_succ_cons, List.take_zero, and_self, if_true, Nat.reduceAdd, Nat.reduceLT, eq_self]
      · simp -dsimp only [↓SD, SP, ↓reduceIte, Nat.reduceEqDiff, ini, frz, rdAo, rd3o, rd2o, rdpo, rd1o, fnv, intv, VOp.dst, getRo, solEo, solo, solo1, allsz, List.all_cons, List.all_nil, Bool.and_true, beq_self_eq_true, List.length_cons, List.length_nil, Nat.zero_add, srcv, Nat.le_refl, List.take_succ_cons, List.take_zero, and_self, if_true, Nat.reduceAdd, Nat.reduceLT, eq_self]
        rfl
      · rw [hH]
        congr 3
        refine tab_ext _ _ _ fun j hj => ?_
        by_cases h0 : j ≤ 0
        · obtain rfl : j = 0 := by omega
          rw [if_pos h0, lf_zero2, lf_zero2]
        · rw [if_neg h0]
      · rintro e E H n ⟨rfl, h1, h16, h17, h18, h5, hH⟩
        simp -dsimp only [↓SD, SP, ↓reduceIte, Nat.reduceEqDiff, ini, frz, rdAo, rd3o, rd2o, rdpo, rd1o, fnv, intv, VOp.dst, getRo, solEo, solo, solo1, allsz, List.all_cons, List.all_nil, Bool.and_true, beq_self_eq_true, List.length_cons, List.length_nil, Nat.zero_add, srcv, Nat.le_refl, List.take_succ_cons, List.take_zero, and_self, if_true, Nat.reduceAdd, Nat.reduceLT, eq_self, h18, wrap64 ((i : Int) + 1) (by omega)]
        refine hK (m - 1) _ _ _ (by omega) ⟨i + 1, by omega, ?_, ?_, ?_, ?_, ?_, hH⟩
        · simp -dsimp only [↓SD, SP, ↓reduceIte, Nat.reduceEqDiff, ini, frz, rdAo, rd3o, rd2o, rdpo, rd1o, fnv, intv, VOp.dst, getRo, solEo, solo, solo1, allsz, List.all_cons, List.all_nil, Bool.and_true, beq_self_eq_true, List.length_cons, List.length_nil, Nat.zero_add, srcv, Nat.le_refl, List.take_succ_cons, List.take_zero, and_self, if_true, Nat.reduceAdd, Nat.reduceLT, eq_self, h1]
        · simp -dsimp only [↓SD, SP, ↓reduceIte, Nat.reduceEqDiff, ini, frz, rdAo, rd3o, rd2o, rdpo, rd1o, fnv, intv, VOp.dst, getRo, solEo, solo, solo1, allsz, List.all_cons, List.all_nil, Bool.and_true, beq_self_eq_true, List.length_cons, List.length_nil, Nat.zero_add, srcv, Nat.le_refl, List.take_succ_cons, List.take_zero, and_self, if_true, Nat.reduceAdd, Nat.reduceLT, eq_self, h16]
        · simp -dsimp only [↓SD, SP, ↓reduceIte, Nat.reduceEqDiff, ini, frz, rdAo, rd3o, rd2o, rdpo, rd1o, fnv, intv, VOp.dst, getRo, solEo, solo, solo1, allsz, List.all_cons, List.all_nil, Bool.and_true, beq_self_eq_true, List.length_cons, List.length_nil, Nat.zero_add, srcv, Nat.le_refl, List.take_succ_cons, List.take_zero, and_self, if_true, Nat.reduceAdd, Nat.reduceLT, eq_self, h17]
        · simp -dsimp only [↓SD, SP, ↓reduceIte, Nat.reduceEqDiff, ini, frz, rdAo, rd3o, rd2o, rdpo, rd1o, fnv, intv, VOp.dst, getRo, solEo, solo, solo1, allsz, List.all_cons, List.all_nil, Bool.and_true, beq_self_eq_true, List.length_cons, List.length_nil, Nat.zero_add, srcv, Nat.le_refl, List.take_succ_cons, List.take_zero, and_self, if_true, Nat.reduceAdd, Nat.reduceLT, eq_self, iv, Int.natCast_add, Int.natCast_one]
        · simp -dsimp only [↓SD, SP, ↓reduceIte, Nat.reduceEqDiff, ini, frz, rdAo, rd3o, rd2o, rdpo, rd1o, fnv, intv, VOp.dst, getRo, solEo, solo, solo1, allsz, List.all_cons, List.all_nil, Bool.and_true, beq_self_eq_true, List.length_cons, List.length_nil, Nat.zero_add, srcv, Nat.le_refl, List.take_succ_cons, List.take_zero, and_self, if_true, Nat.reduceAdd, Nat.reduceLT, eq_self, h5]
      · rintro m E H n Q' K' ⟨k, hm', h1, h16, h17, h18, h5, h7, h8, h22, h23, h24, hH⟩ hQ' hK'
        by_cases hk : k < ys.length
        · have hl1 := ld_int hH (i := k + 1) (by rw [tab_len]; omega)
          have hl0 := ld_int hH (i := k) (by rw [tab_len]; omega)
          rw [tab_get, if_neg (by omega)] at hl1
          rw [tab_get, if_pos (by omega)] at hl0
          have hx1 := x_ownI 15 g 1 (ys.length + 1) ((k : Int) + 1) (k + 1) (by omega) (by omega)
          have hx0 := x_own 15 g 1 (ys.length + 1) k (by omega)
          have hle := lf_le xs ys i k
          have hst := lf_step xs ys i k hi hk
          by_cases he : xs[i] = ys[k]
          · rw [if_pos he] at hst
            have hs := st_int (x := lf xs ys i k + 1) hH (i := k + 1) (by rw [tab_len]; omega)
            rw [Int.natCast_add, Int.natCast_one] at hs
            simp -dsimp only [↓SD, SP, ↓reduceIte, Nat.reduceEqDiff, ini, frz, rdAo, rd3o, rd2o, rdpo, rd1o, fnv, intv, VOp.dst, getRo, solEo, solo, solo1, allsz, List.all_cons, List.all_nil, Bool.and_true, beq_self_eq_true, List.length_cons, List.length_nil, Nat.zero_add, srcv, Nat.le_refl, List.take_succ_cons, List.take_zero, and_self, if_true, Nat.reduceAdd, Nat.reduceLT, eq_self, h1, h16, h17, h18, h5, h7, h8, h22, h23, h24, Int.ofNat_lt, hk, x_strs _ _ hk, wrap64 ((k : Int) + 1) (by omega), hx1, hl1, he, wrap64 ((lf xs ys i k : Int) + 1) (by omega), hs]
            refine hK' (m - 1) _ _ _ (by omega) ⟨k + 1, by omega, ?_, ?_, ?_, ?_, ?_, ?_, ?_, ?_, ?_, ?_, ?_⟩
            · simp -dsimp only [↓SD, SP, ↓reduceIte, Nat.reduceEqDiff, ini, frz, rdAo, rd3o, rd2o, rdpo, rd1o, fnv, intv, VOp.dst, getRo, solEo, solo, solo1, allsz, List.all_cons, List.all_nil, Bool.and_true, beq_self_eq_true, List.length_cons, List.length_nil, Nat.zero_add, srcv, Nat.le_refl, List.take_succ_cons, List.take_zero, and_self, if_true, Nat.reduceAdd, Nat.reduceLT, eq_self, h1]
            · simp -dsimp only [↓SD, SP, ↓reduceIte, Nat.reduceEqDiff, ini, frz, rdAo, rd3o, rd2o, rdpo, rd1o, fnv, intv, VOp.dst, getRo, solEo, solo, solo1, allsz, List.all_cons, List.all_nil, Bool.and_true, beq_self_eq_true, List.length_cons, List.length_nil, Nat.zero_add, srcv, Nat.le_refl, List.take_succ_cons, List.take_zero, and_self, if_true, Nat.reduceAdd, Nat.reduceLT, eq_self, h16]
            · simp -dsimp only [↓SD, SP, ↓reduceIte, Nat.reduceEqDiff, ini, frz, rdAo, rd3o, rd2o, rdpo, rd1o, fnv, intv, VOp.dst, getRo, solEo, solo, solo1, allsz, List.all_cons, List.all_nil, Bool.and_true, beq_self_eq_true, List.length_cons, List.length_nil, Nat.zero_add, srcv, Nat.le_refl, List.take_succ_cons, List.take_zero, and_self, if_true, Nat.reduceAdd, Nat.reduceLT, eq_self, h17]
            · simp -dsimp only [↓SD, SP, ↓reduceIte, Nat.reduceEqDiff, ini, frz, rdAo, rd3o, rd2o, rdpo, rd1o, fnv, intv, VOp.dst, getRo, solEo, solo, solo1, allsz, List.all_cons, List.all_nil, Bool.and_true, beq_self_eq_true, List.length_cons, List.length_nil, Nat.zero_add, srcv, Nat.le_refl, List.take_succ_cons, List.take_zero, and_self, if_true, Nat.reduceAdd, Nat.reduceLT, eq_self, h18]
            · simp -dsimp only [↓SD, SP, ↓reduceIte, Nat.reduceEqDiff, ini, frz, rdAo, rd3o, rd2o, rdpo, rd1o, fnv, intv, VOp.dst, getRo, solEo, solo, solo1, allsz, List.all_cons, List.all_nil, Bool.and_true, beq_self_eq_true, List.length_cons, List.length_nil, Nat.zero_add, srcv, Nat.le_refl, List.take_succ_cons, List.take_zero, and_self, if_true, Nat.reduceAdd, Nat.reduceLT, eq_self, h5]
            · simp -dsimp only [↓SD, SP, ↓reduceIte, Nat.reduceEqDiff, ini, frz, rdAo, rd3o, rd2o, rdpo, rd1o, fnv, intv, VOp.dst, getRo, solEo, solo, solo1, allsz, List.all_cons, List.all_nil, Bool.and_true, beq_self_eq_true, List.length_cons, List.length_nil, Nat.zero_add, srcv, Nat.le_refl, List.take_succ_cons, List.take_zero, and_self, if_true, Nat.reduceAdd, Nat.reduceLT, eq_self, h7, he]
            · simp -dsimp only [↓SD, SP, ↓reduceIte, Nat.reduceEqDiff, ini, frz, rdAo, rd3o, rd2o, rdpo, rd1o, fnv, intv, VOp.dst, getRo, solEo, solo, solo1, allsz, List.all_cons, List.all_nil, Bool.and_true, beq_self_eq_true, List.length_cons, List.length_nil, Nat.zero_add, srcv, Nat.le_refl, List.take_succ_cons, List.take_zero, and_self, if_true, Nat.reduceAdd, Nat.reduceLT, eq_self]
            · simp -dsimp only [↓SD, SP, ↓reduceIte, Nat.reduceEqDiff, ini, frz, rdAo, rd3o, rd2o, rdpo, rd1o, fnv, intv, VOp.dst, getRo, solEo, solo, solo1, allsz, List.all_cons, List.all_nil, Bool.and_true, beq_self_eq_true, List.length_cons, List.length_nil, Nat.zero_add, srcv, Nat.le_refl, List.take_succ_cons, List.take_zero, and_self, if_true, Nat.reduceAdd, Nat.reduceLT, eq_self, h22]
            · simp -dsimp only [↓SD, SP, ↓reduceIte, Nat.reduceEqDiff, ini, frz, rdAo, rd3o, rd2o, rdpo, rd1o, fnv, intv, VOp.dst, getRo, solEo, solo, solo1, allsz, List.all_cons, List.all_nil, Bool.and_true, beq_self_eq_true, List.length_cons, List.length_nil, Nat.zero_add, srcv, Nat.le_refl, List.take_succ_cons, List.take_zero, and_self, if_true, Nat.reduceAdd, Nat.reduceLT, eq_self, h23]
            · simp -dsimp only [↓SD, SP, ↓reduceIte, Nat.reduceEqDiff, ini, frz, rdAo, rd3o, rd2o, rdpo, rd1o, fnv, intv, VOp.dst, getRo, solEo, solo, solo1, allsz, List.all_cons, List.all_nil, Bool.and_true, beq_self_eq_true, List.length_cons, List.length_nil, Nat.zero_add, srcv, Nat.le_refl, List.take_succ_cons, List.take_zero, and_self, if_true, Nat.reduceAdd, Nat.reduceLT, eq_self, iv, Int.natCast_add, Int.natCast_one]
            · simp -dsimp only [↓SD, SP, ↓reduceIte, Nat.reduceEqDiff, ini, frz, rdAo, rd3o, rd2o, rdpo, rd1o, fnv, intv, VOp.dst, getRo, solEo, solo, solo1, allsz, List.all_cons, List.all_nil, Bool.and_true, beq_self_eq_true, List.length_cons, List.length_nil, Nat.zero_add, srcv, Nat.le_refl, List.take_succ_cons, List.take_zero, and_self, if_true, Nat.reduceAdd, Nat.reduceLT, eq_self]
              congr 3
              refine tab_set _ _ _ _ _ ?_ fun j _ hne => ?_
              · rw [if_pos (Nat.le_refl _), hst]
              · by_cases hjk : j ≤ k
                · rw [if_pos hjk, if_pos (by omega)]
                · rw [if_neg hjk, if_neg (by omega)]
          · rw [if_neg he] at hst
            have hs := st_int (x := max (lf xs ys i (k + 1)) (lf xs ys (i + 1) k)) hH (i := k + 1) (by rw [tab_len]; omega)
            simp -dsimp only [↓SD, SP, ↓reduceIte, Nat.reduceEqDiff, ini, frz, rdAo, rd3o, rd2o, rdpo, rd1o, fnv, intv, VOp.dst, getRo, solEo, solo, solo1, allsz, List.all_cons, List.all_nil, Bool.and_true, beq_self_eq_true, List.length_cons, List.length_nil, Nat.zero_add, srcv, Nat.le_refl, List.take_succ_cons, List.take_zero, and_self, if_true, Nat.reduceAdd, Nat.reduceLT, eq_self, h1, h16, h17, h18, h5, h7, h8, h22, h23, h24, Int.ofNat_lt, hk, x_strs _ _ hk, wrap64 ((k : Int) + 1) (by omega), hx1, hx0, hl1, hl0, he, mx_int, hs]
            refine hK' (m - 1) _ _ _ (by omega) ⟨k + 1, by omega, ?_, ?_, ?_, ?_, ?_, ?_, ?_, ?_, ?_, ?_, ?_⟩
            · simp -dsimp only [↓SD, SP, ↓reduceIte, Nat.reduceEqDiff, ini, frz, rdAo, rd3o, rd2o, rdpo, rd1o, fnv, intv, VOp.dst, getRo, solEo, solo, solo1, allsz, List.all_cons, List.all_nil, Bool.and_true, beq_self_eq_true, List.length_cons, List.length_nil, Nat.zero_add, srcv, Nat.le_refl, List.take_succ_cons, List.take_zero, and_self, if_true, Nat.reduceAdd, Nat.reduceLT, eq_self, h1]
            · simp -dsimp only [↓SD, SP, ↓reduceIte, Nat.reduceEqDiff, ini, frz, rdAo, rd3o, rd2o, rdpo, rd1o, fnv, intv, VOp.dst, getRo, solEo, solo, solo1, allsz, List.all_cons, List.all_nil, Bool.and_true, beq_self_eq_true, List.length_cons, List.length_nil, Nat.zero_add, srcv, Nat.le_refl, List.take_succ_cons, List.take_zero, and_self, if_true, Nat.reduceAdd, Nat.reduceLT, eq_self, h16]
            · simp -dsimp only [↓SD, SP, ↓reduceIte, Nat.reduceEqDiff, ini, frz, rdAo, rd3o, rd2o, rdpo, rd1o, fnv, intv, VOp.dst, getRo, solEo, solo, solo1, allsz, List.all_cons, List.all_nil, Bool.and_true, beq_self_eq_true, List.length_cons, List.length_nil, Nat.zero_add, srcv, Nat.le_refl, List.take_succ_cons, List.take_zero, and_self, if_true, Nat.reduceAdd, Nat.reduceLT, eq_self, h17]
            · simp -dsimp only [↓SD, SP, ↓reduceIte, Nat.reduceEqDiff, ini, frz, rdAo, rd3o, rd2o, rdpo, rd1o, fnv, intv, VOp.dst, getRo, solEo, solo, solo1, allsz, List.all_cons, List.all_nil, Bool.and_true, beq_self_eq_true, List.length_cons, List.length_nil, Nat.zero_add, srcv, Nat.le_refl, List.take_succ_cons, List.take_zero, and_self, if_true, Nat.reduceAdd, Nat.reduceLT, eq_self, h18]
            · simp -dsimp only [↓SD, SP, ↓reduceIte, Nat.reduceEqDiff, ini, frz, rdAo, rd3o, rd2o, rdpo, rd1o, fnv, intv, VOp.dst, getRo, solEo, solo, solo1, allsz, List.all_cons, List.all_nil, Bool.and_true, beq_self_eq_true, List.length_cons, List.length_nil, Nat.zero_add, srcv, Nat.le_refl, List.take_succ_cons, List.take_zero, and_self, if_true, Nat.reduceAdd, Nat.reduceLT, eq_self, h5]
            · simp -dsimp only [↓SD, SP, ↓reduceIte, Nat.reduceEqDiff, ini, frz, rdAo, rd3o, rd2o, rdpo, rd1o, fnv, intv, VOp.dst, getRo, solEo, solo, solo1, allsz, List.all_cons, List.all_nil, Bool.and_true, beq_self_eq_true, List.length_cons, List.length_nil, Nat.zero_add, srcv, Nat.le_refl, List.take_succ_cons, List.take_zero, and_self, if_true, Nat.reduceAdd, Nat.reduceLT, eq_self, h7]
            · simp -dsimp only [↓SD, SP, ↓reduceIte, Nat.reduceEqDiff, ini, frz, rdAo, rd3o, rd2o, rdpo, rd1o, fnv, intv, VOp.dst, getRo, solEo, solo, solo1, allsz, List.all_cons, List.all_nil, Bool.and_true, beq_self_eq_true, List.length_cons, List.length_nil, Nat.zero_add, srcv, Nat.le_refl, List.take_succ_cons, List.take_zero, and_self, if_true, Nat.reduceAdd, Nat.reduceLT, eq_self]
            · simp -dsimp only [↓SD, SP, ↓reduceIte, Nat.reduceEqDiff, ini, frz, rdAo, rd3o, rd2o, rdpo, rd1o, fnv, intv, VOp.dst, getRo, solEo, solo, solo1, allsz, List.all_cons, List.all_nil, Bool.and_true, beq_self_eq_true, List.length_cons, List.length_nil, Nat.zero_add, srcv, Nat.le_refl, List.take_succ_cons, List.take_zero, and_self, if_true, Nat.reduceAdd, Nat.reduceLT, eq_self, h22]
            · simp -dsimp only [↓SD, SP, ↓reduceIte, Nat.reduceEqDiff, ini, frz, rdAo, rd3o, rd2o, rdpo, rd1o, fnv, intv, VOp.dst, getRo, solEo, solo, solo1, allsz, List.all_cons, List.all_nil, Bool.and_true, beq_self_eq_true, List.length_cons, List.length_nil, Nat.zero_add, srcv, Nat.le_refl, List.take_succ_cons, List.take_zero, and_self, if_true, Nat.reduceAdd, Nat.reduceLT, eq_self, h23]
            · simp -dsimp only [↓SD, SP, ↓reduceIte, Nat.reduceEqDiff, ini, frz, rdAo, rd3o, rd2o, rdpo, rd1o, fnv, intv, VOp.dst, getRo, solEo, solo, solo1, allsz, List.all_cons, List.all_nil, Bool.and_true, beq_self_eq_true, List.length_cons, List.length_nil, Nat.zero_add, srcv, Nat.le_refl, List.take_succ_cons, List.take_zero, and_self, if_true, Nat.reduceAdd, Nat.reduceLT, eq_self, iv, Int.natCast_add, Int.natCast_one]
            · simp -dsimp only [↓SD, SP, ↓reduceIte, Nat.reduceEqDiff, ini, frz, rdAo, rd3o, rd2o, rdpo, rd1o, fnv, intv, VOp.dst, getRo, solEo, solo, solo1, allsz, List.all_cons, List.all_nil, Bool.and_true, beq_self_eq_true, List.length_cons, List.length_nil, Nat.zero_add, srcv, Nat.le_refl, List.take_succ_cons, List.take_zero, and_self, if_true, Nat.reduceAdd, Nat.reduceLT, eq_self]
              congr 3
              refine tab_set _ _ _ _ _ ?_ fun j _ hne => ?_
              · rw [if_pos (Nat.le_refl _), hst]
              · by_cases hjk : j ≤ k
                · rw [if_pos hjk, if_pos (by omega)]
                · rw [if_neg hjk, if_neg (by omega)]
        · simp -dsimp only [↓SD, SP, ↓reduceIte, Nat.reduceEqDiff, ini, frz, rdAo, rd3o, rd2o, rdpo, rd1o, fnv, intv, VOp.dst, getRo, solEo, solo, solo1, allsz, List.all_cons, List.all_nil, Bool.and_true, beq_self_eq_true, List.length_cons, List.length_nil, Nat.zero_add, srcv, Nat.le_refl, List.take_succ_cons, List.take_zero, and_self, if_true, Nat.reduceAdd, Nat.reduceLT, eq_self, h23, h24, Int.ofNat_lt, hk]
          refine hQ' _ _ _ _ ⟨rfl, h1, h16, h17, h18, h5, ?_⟩
          rw [hH]
          congr 3
          exact tab_ext _ _ _ fun j hj => if_pos (by omega)
    · simp -dsimp only [↓SD, SP, ↓reduceIte, Nat.reduceEqDiff, ini, frz, rdAo, rd3o, rd2o, rdpo, rd1o, fnv, intv, VOp.dst, getRo, solEo, solo, solo1, allsz, List.all_cons, List.all_nil, Bool.and_true, beq_self_eq_true, List.length_cons, List.length_nil, Nat.zero_add, srcv, Nat.le_refl, List.take_succ_cons, List.take_zero, and_self, if_true, Nat.reduceAdd, Nat.reduceLT, eq_self, h17, h18, Int.ofNat_lt, hi]
      obtain rfl : i = xs.length := by omega
      exact hQ _ _ _ _ ⟨rfl, h1, h5, hH⟩
end Go.AVM

/- spec.l1Table. -/
set_option linter.unusedSimpArgs false
set_option linter.unusedVariables false
namespace Go.AVM
theorem app_own {n d s bytes : Nat} {fr kp : Bool} {E : Env} {H : Hp} {d' b len : Nat} {xs ys : List AV} {row ex : Bool} {K : Env → Hp → Nat → Prop} (hH : H d' = some ⟨b, s, xs, false, row, ex⟩) (hfr : fr = true → ex = true) (hl : len = xs.length)
    (hb : (len + ys.length) * bytes ≤ 140737488355328) (hb2 : len + ys.length ≤ 140737488355328)
    (hk : ∀ b' n', n ≤ n' → (b' = b ∨ n ≤ b' ∧ b' < n') → K (upd E d (.own d' b' s (len + ys.length))) (updH H d' (some ⟨b', s, xs ++ ys, false, row, false⟩)) n') : bap n d s bytes fr kp E H (.own d' b s len) ys K :=
  ⟨_, hH, rfl, rfl, rfl, rfl, hfr, hl, hb, hb2, hk⟩
theorem bal_mk {n : Nat} {K : Nat → Prop} (h : ∀ b, n ≤ b → K b) : ball n K := h
theorem Fm.id {H : Hp} : ∀ xs : List AV, Fm H xs xs []
  | [] => .nil
  | x :: xs => .same x xs xs [] (Fm.id xs)
structure TS (H : Hp) (bt : Nat) (bs : Nat → Nat) (f : Nat → Nat → Nat) (N M : Nat) : Prop where
  top : ∃ ex, H 9 = some ⟨bt, 1, (List.range N).map (fun j => AV.own (bs j + 1000) (bs j) 1 M), false, false, ex⟩
  row : ∀ j, j < N → H (bs j + 1000) = some ⟨bs j, 1, (tab (f j) M).map iv, false, true, true⟩
  inj : ∀ j j', j < N → j' < N → bs j = bs j' → j = j'
section
variable {H : Hp} {bt : Nat} {bs : Nat → Nat} {f : Nat → Nat → Nat} {N M : Nat}
theorem TS.ld1 (h : TS H bt bs f N M) {i : Nat} (hi : i < N) : ldv H none (.optr 9 bt 1 i none) = some (.own (bs i + 1000) (bs i) 1 M) := by
  obtain ⟨ex, ht⟩ := h.top
  have := ld_map (fun j => AV.own (bs j + 1000) (bs j) 1 M) ht (i := i) (by simpa using hi) rfl rfl
  rw [this]
  simp
theorem TS.ld2 (h : TS H bt bs f N M) {i k : Nat} (hi : i < N) (hk : k < M) : ldv H none (.optr (bs i + 1000) (bs i) 1 k none) = some (iv (f i k)) := by
  have := ld_int (h.row i hi) (i := k) (by rw [tab_len]; exact hk)
  rwa [tab_get] at this
theorem TS.st (h : TS H bt bs f N M) {i k x : Nat} (hi : i < N) (hk : k < M) : ∃ H', stv H none (.int .i64 x) (.optr (bs i + 1000) (bs i) 1 k none) = some H' ∧ TS H' bt bs (fun j q => if j = i ∧ q = k then x else f j q) N M := by
  refine ⟨_, st_int (h.row i hi) (by rw [tab_len]; exact hk), ?_, fun j hj => ?_, h.inj⟩
  · obtain ⟨ex, ht⟩ := h.top
    refine ⟨ex, ?_⟩
    rw [updH_at, if_neg (by omega)]
    exact ht
  · rw [updH_at]
    by_cases hji : bs j + 1000 = bs i + 1000
    · obtain rfl := h.inj j i hj hi (by omega)
      rw [if_pos rfl]
      congr 3
      refine tab_set _ _ _ _ _ (by simp) fun q _ hq => by simp [hq]
    · rw [if_neg hji]
      have hne : j ≠ i := fun e => hji (by rw [e])
      rw [h.row j hj]
      congr 3
      exact tab_ext _ _ _ fun q _ => by simp [hne]
theorem TS.ext (h : TS H bt bs f N M) {g : Nat → Nat → Nat} (hg : ∀ j q, j < N → q < M → f j q = g j q) : TS H bt bs g N M :=
  ⟨h.top, fun j hj => by rw [h.row j hj, tab_ext _ _ _ fun q hq => hg j q hj hq], h.inj⟩
def rowsV (bs : Nat → Nat) (f : Nat → Nat → Nat) (N M : Nat) : List AV := (List.range N).map fun j => .lsl (some (bs j, 1)) M ((tab (f j) M).map iv)
theorem TS.fm (h : TS H bt bs f N M) : ∃ ks, Fm H [.own 9 bt 1 N] [.lsl (some (bt, 1)) N (rowsV bs f N M)] ks := by
  obtain ⟨ex, ht⟩ := h.top
  have key : ∀ js : List Nat, (∀ j ∈ js, j < N) → ∃ ks, Fm H (js.map fun j => AV.own (bs j + 1000) (bs j) 1 M) (js.map fun j => .lsl (some (bs j, 1)) M ((tab (f j) M).map iv)) ks := by
    intro js
    induction js with
    | nil => exact fun _ => ⟨[], .nil⟩
    | cons j js ih =>
      intro hj
      obtain ⟨ks, hk⟩ := ih fun q hq => hj q (List.mem_cons_of_mem _ hq)
      exact ⟨_, .own _ _ _ _ _ _ _ _ [] ks (h.row j (hj j List.mem_cons_self)) rfl rfl (by simp [tab]) (Fm.id _) hk⟩
  obtain ⟨ks, hk⟩ := key (List.range N) fun j hj => List.mem_range.1 hj
  exact ⟨_, .own 9 bt 1 N _ _ [] [] ks [] ht rfl rfl (by simp) hk .nil⟩
end

theorem s_l1Table (xs ys : List ByteArray) (hx : xs.length ≤ 1000) (hy : ys.length ≤ 1000) :
    OK Go.Proofs.Try.prog 51 [strs xs, strs ys] (fun _ _ r => ∃ bt bs, r = .lsl (some (bt, 1)) (xs.length + 1) (rowsV bs (lt xs ys) (xs.length + 1) (ys.length + 1))) := by
  refine fn_ok k51 rfl ?_
  generalize OK Go.Proofs.Try.prog = L
  intro lo
  simp -dsimp only [↓SD, SP, ↓reduceIte, Nat.reduceEqDiff, ini, frz, rdAo, rd3o, rd2o, rdpo, rd1o, fnv, intv, VOp.dst, getRo, solEo, solo, solo1, allsz, List.all_cons, List.all_nil, Bool.and_true, beq_self_eq_true, List.length_cons, List.length_nil, Nat.zero_add, srcv, Nat.le_refl, List.take_succ_cons, List.take_zero, and_self, if_true, Nat.reduceAdd, Nat.reduceLT, eq_self, c51, allsz, List.all_nil]
  refine bal_mk fun g hg => ?_
  simp -dsimp only [↓SD, SP, ↓reduceIte, Nat.reduceEqDiff, ini, frz, rdAo, rd3o, rd2o, rdpo, rd1o, fnv, intv, VOp.dst, getRo, solEo, solo, solo1, allsz, List.all_cons, List.all_nil, Bool.and_true, beq_self_eq_true, List.length_cons, List.length_nil, Nat.zero_add, srcv, Nat.le_refl, List.take_succ_cons, List.take_zero, and_self, if_true, Nat.reduceAdd, Nat.reduceLT, eq_self, List.length_nil]
  refine loop_rule (fun m E H n => ∃ (i bt : Nat) (bs : Nat → Nat), m + i = xs.length + 1 ∧ E 0 = strs xs ∧ E 1 = strs ys ∧ E 5 = .own 9 bt 1 i ∧ E 6 = iv i ∧ TS H bt bs (fun _ _ => 0) i (ys.length + 1) ∧ ∀ j, j < i → bs j < n)
    (fun e E H n => e = .exit 0 ∧ E 0 = strs xs ∧ E 1 = strs ys ∧ ∃ bt bs, E 5 = .own 9 bt 1 (xs.length + 1) ∧ TS H bt bs (fun _ _ => 0) (xs.length + 1) (ys.length + 1))
    (xs.length + 1) ⟨0, g, fun _ => 0, rfl, rfl, rfl, rfl, rfl, ⟨⟨true, rfl⟩, by simp, by simp⟩, by simp⟩ ?_ ?_
  · rintro e E H n ⟨rfl, h0, h1, bt, bs, h5, hT⟩
    simp -dsimp only [↓SD, SP, ↓reduceIte, Nat.reduceEqDiff, ini, frz, rdAo, rd3o, rd2o, rdpo, rd1o, fnv, intv, VOp.dst, getRo, solEo, solo, solo1, allsz, List.all_cons, List.all_nil, Bool.and_true, beq_self_eq_true, List.length_cons, List.length_nil, Nat.zero_add, srcv, Nat.le_refl, List.take_succ_cons, List.take_zero, and_self, if_true, Nat.reduceAdd, Nat.reduceLT, eq_self, h0, h1, l_strs, wrap64 ((xs.length : Int) - 1) (by omega)]
    refine loop_rule (fun m E H n => m ≤ xs.length ∧ E 0 = strs xs ∧ E 1 = strs ys ∧ E 5 = .own 9 bt 1 (xs.length + 1) ∧ E 7 = .int .i64 ((m : Int) - 1) ∧ TS H bt bs (fun j q => if m ≤ j then lt xs ys j q else 0) (xs.length + 1) (ys.length + 1))
      (fun e E H n => e = .exit 2 ∧ E 5 = .own 9 bt 1 (xs.length + 1) ∧ TS H bt bs (lt xs ys) (xs.length + 1) (ys.length + 1))
      xs.length ⟨Nat.le_refl _, ?_, ?_, ?_, ?_, ?_⟩ ?_ ?_
    · simp -dsimp only [↓SD, SP, ↓reduceIte, Nat.reduceEqDiff, ini, frz, rdAo, rd3o, rd2o, rdpo, rd1o, fnv, intv, VOp.dst, getRo, solEo, solo, solo1, allsz, List.all_cons, List.all_nil, Bool.and_true, beq_self_eq_true, List.length_cons, List.length_nil, Nat.zero_add, srcv, Nat.le_refl, List.take_succ_cons, List.take_zero, and_self, if_true, Nat.reduceAdd, Nat.reduceLT, eq_self, h0]
    · simp -dsimp only [↓SD, SP, ↓reduceIte, Nat.reduceEqDiff, ini, frz, rdAo, rd3o, rd2o, rdpo, rd1o, fnv, intv, VOp.dst, getRo, solEo, solo, solo1, allsz, List.all_cons, List.all_nil, Bool.and_true, beq_self_eq_true, List.length_cons, List.length_nil, Nat.zero_add, srcv, Nat.le_refl, List.take_succ_cons, List.take_zero, and_self, if_true, Nat.reduceAdd, Nat.reduceLT, eq_self, h1]
    · simp -dsimp only [↓SD, SP, ↓reduceIte, Nat.reduceEqDiff, ini, frz, rdAo, rd3o, rd2o, rdpo, rd1o, fnv, intv, VOp.dst, getRo, solEo, solo, solo1, allsz, List.all_cons, List.all_nil, Bool.and_true, beq_self_eq_true, List.length_cons, List.length_nil, Nat.zero_add, srcv, Nat.le_refl, List.take_succ_cons, List.take_zero, and_self, if_true, Nat.reduceAdd, Nat.reduceLT, eq_self, h5]
    · simp -dsimp only [↓SD, SP, ↓reduceIte, Nat.reduceEqDiff, ini, frz, rdAo, rd3o, rd2o, rdpo, rd1o, fnv, intv, VOp.dst, getRo, solEo, solo, solo1, allsz, List.all_cons, List.all_nil, Bool.and_true, beq_self_eq_true, List.length_cons, List.length_nil, Nat.zero_add, srcv, Nat.le_refl, List.take_succ_cons, List.take_zero, and_self, if_true, Nat.reduceAdd, Nat.reduceLT, eq_self]
    · refine hT.ext fun j q hj hq => ?_
      by_cases hxj : xs.length ≤ j
      · rw [if_pos hxj, lt_end _ _ _ _ hxj]
      · rw [if_neg hxj]
    · rintro e E H n ⟨rfl, h5, hT⟩
      simp -dsimp only [↓SD, SP, ↓reduceIte, Nat.reduceEqDiff, ini, frz, rdAo, rd3o, rd2o, rdpo, rd1o, fnv, intv, VOp.dst, getRo, solEo, solo, solo1, allsz, List.all_cons, List.all_nil, Bool.and_true, beq_self_eq_true, List.length_cons, List.length_nil, Nat.zero_add, srcv, Nat.le_refl, List.take_succ_cons, List.take_zero, and_self, if_true, Nat.reduceAdd, Nat.reduceLT, eq_self, h5]
      obtain ⟨ks, hF⟩ := hT.fm
      refine gh_firm1 4 hF (by decide) (by simp -dsimp only [↓SD, SP, ↓reduceIte, Nat.reduceEqDiff, ini, frz, rdAo, rd3o, rd2o, rdpo, rd1o, fnv, intv, VOp.dst, getRo, solEo, solo, solo1, allsz, List.all_cons, List.all_nil, Bool.and_true, beq_self_eq_true, List.length_cons, List.length_nil, Nat.zero_add, srcv, Nat.le_refl, List.take_succ_cons, List.take_zero, and_self, if_true, Nat.reduceAdd, Nat.reduceLT, eq_self]) (by simp [AV.sz]) ?_
      simp -dsimp only [↓SD, SP, ↓reduceIte, Nat.reduceEqDiff, ini, frz, rdAo, rd3o, rd2o, rdpo, rd1o, fnv, intv, VOp.dst, getRo, solEo, solo, solo1, allsz, List.all_cons, List.all_nil, Bool.and_true, beq_self_eq_true, List.length_cons, List.length_nil, Nat.zero_add, srcv, Nat.le_refl, List.take_succ_cons, List.take_zero, and_self, if_true, Nat.reduceAdd, Nat.reduceLT, eq_self]
      exact ⟨bt, bs, rfl⟩
    · rintro m E H n Q K ⟨hm, h0, h1, h5, h7, hT⟩ hQ hK
      by_cases hi : 0 ≤ (m : Int) - 1
      · obtain ⟨i, rfl⟩ : ∃ i, m = i + 1 := ⟨m - 1, by omega⟩
        have e7 : ((i + 1 : Nat) : Int) - 1 = i := by omega
        simp -dsimp only [↓SD, SP, ↓reduceIte, Nat.reduceEqDiff, ini, frz, rdAo, rd3o, rd2o, rdpo, rd1o, fnv, intv, VOp.dst, getRo, solEo, solo, solo1, allsz, List.all_cons, List.all_nil, Bool.and_true, beq_self_eq_true, List.length_cons, List.length_nil, Nat.zero_add, srcv, Nat.le_refl, List.take_succ_cons, List.take_zero, and_self, if_true, Nat.reduceAdd, Nat.reduceLT, eq_self, h0, h1, h5, h7, hi, l_strs, wrap64 ((ys.length : Int) - 1) (by omega)]
        refine loop_rule (fun p E H n => p ≤ ys.length ∧ E 0 = strs xs ∧ E 1 = strs ys ∧ E 5 = .own 9 bt 1 (xs.length + 1) ∧ E 7 = .int .i64 i ∧ E 8 = .int .i64 ((p : Int) - 1) ∧ TS H bt bs (fun j q => if i + 1 ≤ j ∨ j = i ∧ p ≤ q then lt xs ys j q else 0) (xs.length + 1) (ys.length + 1))
          (fun e E H n => e = .exit 4 ∧ E 0 = strs xs ∧ E 1 = strs ys ∧ E 5 = .own 9 bt 1 (xs.length + 1) ∧ E 7 = .int .i64 i ∧ TS H bt bs (fun j q => if i ≤ j then lt xs ys j q else 0) (xs.length + 1) (ys.length + 1))
          ys.length ⟨Nat.le_refl _, ?_, ?_, ?_, ?_, ?_, ?_⟩ ?_ ?_
        · simp -dsimp only [↓SD, SP, ↓reduceIte, Nat.reduceEqDiff, ini, frz, rdAo, rd3o, rd2o, rdpo, rd1o, fnv, intv, VOp.dst, getRo, solEo, solo, solo1, allsz, List.all_cons, List.all_nil, Bool.and_true, beq_self_eq_true, List.length_cons, List.length_nil, Nat.zero_add, srcv, Nat.le_refl, List.take_succ_cons, List.take_zero, and_self, if_true, Nat.reduceAdd, Nat.reduceLT, eq_self, h0]
        · simp -dsimp only [↓SD, SP, ↓reduceIte, Nat.reduceEqDiff, ini, frz, rdAo, rd3o, rd2o, rdpo, rd1o, fnv, intv, VOp.dst, getRo, solEo, solo, solo1, allsz, List.all_cons, List.all_nil, Bool.and_true, beq_self_eq_true, List.length_cons, List.length_nil, Nat.zero_add, srcv, Nat.le_refl, List.take_succ_cons, List.take_zero, and_self, if_true, Nat.reduceAdd, Nat.reduceLT, eq_self, h1]
        · simp -dsimp only [↓SD, SP, ↓reduceIte, Nat.reduceEqDiff, ini, frz, rdAo, rd3o, rd2o, rdpo, rd1o, fnv, intv, VOp.dst, getRo, solEo, solo, solo1, allsz, List.all_cons, List.all_nil, Bool.and_true, beq_self_eq_true, List.length_cons, List.length_nil, Nat.zero_add, srcv, Nat.le_refl, List.take_succ_cons, List.take_zero, and_self, if_true, Nat.reduceAdd, Nat.reduceLT, eq_self, h5]
        · simp -dsimp only [↓SD, SP, ↓reduceIte, Nat.reduceEqDiff, ini, frz, rdAo, rd3o, rd2o, rdpo, rd1o, fnv, intv, VOp.dst, getRo, solEo, solo, solo1, allsz, List.all_cons, List.all_nil, Bool.and_true, beq_self_eq_true, List.length_cons, List.length_nil, Nat.zero_add, srcv, Nat.le_refl, List.take_succ_cons, List.take_zero, and_self, if_true, Nat.reduceAdd, Nat.reduceLT, eq_self, h7, e7]
        · simp -dsimp only [↓SD, SP, ↓reduceIte, Nat.reduceEqDiff, ini, frz, rdAo, rd3o, rd2o, rdpo, rd1o, fnv, intv, VOp.dst, getRo, solEo, solo, solo1, allsz, List.all_cons, List.all_nil, Bool.and_true, beq_self_eq_true, List.length_cons, List.length_nil, Nat.zero_add, srcv, Nat.le_refl, List.take_succ_cons, List.take_zero, and_self, if_true, Nat.reduceAdd, Nat.reduceLT, eq_self]
        · refine hT.ext fun j q hj hq => ?_
          by_cases hij : i + 1 ≤ j
          · rw [if_pos hij, if_pos (.inl hij)]
          · rw [if_neg hij]
            by_cases hq' : j = i ∧ ys.length ≤ q
            · rw [if_pos (.inr hq'), lt_end2 _ _ _ _ hq'.2]
            · rw [if_neg (by rintro (h | h); exact hij h; exact hq' h)]
        · rintro e E H n ⟨rfl, h0, h1, h5, h7, hT⟩
          simp -dsimp only [↓SD, SP, ↓reduceIte, Nat.reduceEqDiff, ini, frz, rdAo, rd3o, rd2o, rdpo, rd1o, fnv, intv, VOp.dst, getRo, solEo, solo, solo1, allsz, List.all_cons, List.all_nil, Bool.and_true, beq_self_eq_true, List.length_cons, List.length_nil, Nat.zero_add, srcv, Nat.le_refl, List.take_succ_cons, List.take_zero, and_self, if_true, Nat.reduceAdd, Nat.reduceLT, eq_self, h7, wrap64 ((i : Int) - 1) (by omega)]
          refine hK i _ _ _ rfl ⟨by omega, ?_, ?_, ?_, ?_, hT⟩
          · simp -dsimp only [↓SD, SP, ↓reduceIte, Nat.reduceEqDiff, ini, frz, rdAo, rd3o, rd2o, rdpo, rd1o, fnv, intv, VOp.dst, getRo, solEo, solo, solo1, allsz, List.all_cons, List.all_nil, Bool.and_true, beq_self_eq_true, List.length_cons, List.length_nil, Nat.zero_add, srcv, Nat.le_refl, List.take_succ_cons, List.take_zero, and_self, if_true, Nat.reduceAdd, Nat.reduceLT, eq_self, h0]
          · simp -dsimp only [↓SD, SP, ↓reduceIte, Nat.reduceEqDiff, ini, frz, rdAo, rd3o, rd2o, rdpo, rd1o, fnv, intv, VOp.dst, getRo, solEo, solo, solo1, allsz, List.all_cons, List.all_nil, Bool.and_true, beq_self_eq_true, List.length_cons, List.length_nil, Nat.zero_add, srcv, Nat.le_refl, List.take_succ_cons, List.take_zero, and_self, if_true, Nat.reduceAdd, Nat.reduceLT, eq_self, h1]
          · simp -dsimp only [↓SD, SP, ↓reduceIte, Nat.reduceEqDiff, ini, frz, rdAo, rd3o, rd2o, rdpo, rd1o, fnv, intv, VOp.dst, getRo, solEo, solo, solo1, allsz, List.all_cons, List.all_nil, Bool.and_true, beq_self_eq_true, List.length_cons, List.length_nil, Nat.zero_add, srcv, Nat.le_refl, List.take_succ_cons, List.take_zero, and_self, if_true, Nat.reduceAdd, Nat.reduceLT, eq_self, h5]
          · simp -dsimp only [↓SD, SP, ↓reduceIte, Nat.reduceEqDiff, ini, frz, rdAo, rd3o, rd2o, rdpo, rd1o, fnv, intv, VOp.dst, getRo, solEo, solo, solo1, allsz, List.all_cons, List.all_nil, Bool.and_true, beq_self_eq_true, List.length_cons, List.length_nil, Nat.zero_add, srcv, Nat.le_refl, List.take_succ_cons, List.take_zero, and_self, if_true, Nat.reduceAdd, Nat.reduceLT, eq_self]
        · rintro p E H n Q' K' ⟨hp, h0, h1, h5, h7, h8, hT⟩ hQ' hK'
          by_cases hk : 0 ≤ (p : Int) - 1
          · obtain ⟨k, rfl⟩ : ∃ k, p = k + 1 := ⟨p - 1, by omega⟩
            have e8 : ((k + 1 : Nat) : Int) - 1 = k := by omega
            have hik : i < xs.length := by omega
            have hkk : k < ys.length := by omega
            have a1 := hT.ld1 (i := i) (by omega)
            have a2 := hT.ld1 (i := i + 1) (by omega)
            have b1 := hT.ld2 (i := i + 1) (k := k + 1) (by omega) (by omega)
            have b2 := hT.ld2 (i := i + 1) (k := k) (by omega) (by omega)
            have b3 := hT.ld2 (i := i) (k := k + 1) (by omega) (by omega)
            rw [if_pos (.inl (Nat.le_refl _))] at b1 b2
            rw [if_pos (.inr ⟨rfl, Nat.le_refl _⟩)] at b3
            have x1 := x_own 9 bt 1 (xs.length + 1) i (by omega)
            have x2 := x_ownI 9 bt 1 (xs.length + 1) ((i : Int) + 1) (i + 1) (by omega) (by omega)
            have y1 := fun j => x_own (bs j + 1000) (bs j) 1 (ys.length + 1) k (by omega)
            have y2 := fun j => x_ownI (bs j + 1000) (bs j) 1 (ys.length + 1) ((k : Int) + 1) (k + 1) (by omega) (by omega)
            have l1 := lt_le xs ys (i + 1) (k + 1)
            have hst := lt_step xs ys i k hik hkk
            rw [e8] at h8 hk
            have w1 := wrap64 ((i : Int) + 1) (by omega)
            have w2 := wrap64 ((k : Int) + 1) (by omega)
            have fin : ∀ x, lt xs ys i k = x → ∃ H', stv H none (.int .i64 x) (.optr (bs i + 1000) (bs i) 1 k none) = some H' ∧ TS H' bt bs (fun j q => if i + 1 ≤ j ∨ j = i ∧ k ≤ q then lt xs ys j q else 0) (xs.length + 1) (ys.length + 1) := by
              rintro _ rfl
              obtain ⟨H', h1, h2⟩ := hT.st (i := i) (k := k) (x := lt xs ys i k) (by omega) (by omega)
              refine ⟨H', h1, h2.ext fun j q _ _ => ?_⟩
              by_cases hjq : j = i ∧ q = k
              · obtain ⟨rfl, rfl⟩ := hjq
                rw [if_pos ⟨rfl, rfl⟩, if_pos (.inr ⟨rfl, Nat.le_refl _⟩)]
              · rw [if_neg hjq]
                by_cases hc : i + 1 ≤ j ∨ j = i ∧ k ≤ q
                · rw [if_pos hc, if_pos (by omega)]
                · rw [if_neg hc, if_neg (by omega)]
            by_cases he : xs[i] = ys[k]
            · rw [if_pos he] at hst
              obtain ⟨H', s1, s2⟩ := fin _ hst
              rw [Int.natCast_add, Int.natCast_one] at s1
              simp -dsimp only [↓SD, SP, ↓reduceIte, Nat.reduceEqDiff, ini, frz, rdAo, rd3o, rd2o, rdpo, rd1o, fnv, intv, VOp.dst, getRo, solEo, solo, solo1, allsz, List.all_cons, List.all_nil, Bool.and_true, beq_self_eq_true, List.length_cons, List.length_nil, Nat.zero_add, srcv, Nat.le_refl, List.take_succ_cons, List.take_zero, and_self, if_true, Nat.reduceAdd, Nat.reduceLT, eq_self, h0, h1, h5, h7, h8, hk, x_strs _ _ hik, x_strs _ _ hkk, he, a1, a2, b1, x1, x2, y1, y2, w1, w2, wrap64 ((lt xs ys (i + 1) (k + 1) : Int) + 1) (by omega), s1, wrap64 ((k : Int) - 1) (by omega)]
              refine hK' k _ _ _ rfl ⟨by omega, ?_, ?_, ?_, ?_, ?_, s2⟩
              · simp -dsimp only [↓SD, SP, ↓reduceIte, Nat.reduceEqDiff, ini, frz, rdAo, rd3o, rd2o, rdpo, rd1o, fnv, intv, VOp.dst, getRo, solEo, solo, solo1, allsz, List.all_cons, List.all_nil, Bool.and_true, beq_self_eq_true, List.length_cons, List.length_nil, Nat.zero_add, srcv, Nat.le_refl, List.take_succ_cons, List.take_zero, and_self, if_true, Nat.reduceAdd, Nat.reduceLT, eq_self, h0]
              · simp -dsimp only [↓SD, SP, ↓reduceIte, Nat.reduceEqDiff, ini, frz, rdAo, rd3o, rd2o, rdpo, rd1o, fnv, intv, VOp.dst, getRo, solEo, solo, solo1, allsz, List.all_cons, List.all_nil, Bool.and_true, beq_self_eq_true, List.length_cons, List.length_nil, Nat.zero_add, srcv, Nat.le_refl, List.take_succ_cons, List.take_zero, and_self, if_true, Nat.reduceAdd, Nat.reduceLT, eq_self, h1]
              · simp -dsimp only [↓SD, SP, ↓reduceIte, Nat.reduceEqDiff, ini, frz, rdAo, rd3o, rd2o, rdpo, rd1o, fnv, intv, VOp.dst, getRo, solEo, solo, solo1, allsz, List.all_cons, List.all_nil, Bool.and_true, beq_self_eq_true, List.length_cons, List.length_nil, Nat.zero_add, srcv, Nat.le_refl, List.take_succ_cons, List.take_zero, and_self, if_true, Nat.reduceAdd, Nat.reduceLT, eq_self, h5]
              · simp -dsimp only [↓SD, SP, ↓reduceIte, Nat.reduceEqDiff, ini, frz, rdAo, rd3o, rd2o, rdpo, rd1o, fnv, intv, VOp.dst, getRo, solEo, solo, solo1, allsz, List.all_cons, List.all_nil, Bool.and_true, beq_self_eq_true, List.length_cons, List.length_nil, Nat.zero_add, srcv, Nat.le_refl, List.take_succ_cons, List.take_zero, and_self, if_true, Nat.reduceAdd, Nat.reduceLT, eq_self, h7]
              · simp -dsimp only [↓SD, SP, ↓reduceIte, Nat.reduceEqDiff, ini, frz, rdAo, rd3o, rd2o, rdpo, rd1o, fnv, intv, VOp.dst, getRo, solEo, solo, solo1, allsz, List.all_cons, List.all_nil, Bool.and_true, beq_self_eq_true, List.length_cons, List.length_nil, Nat.zero_add, srcv, Nat.le_refl, List.take_succ_cons, List.take_zero, and_self, if_true, Nat.reduceAdd, Nat.reduceLT, eq_self]
            · rw [if_neg he] at hst
              by_cases hc : (lt xs ys i (k + 1) : Int) ≤ lt xs ys (i + 1) k
              · rw [Nat.max_eq_left (by omega)] at hst
                obtain ⟨H', s1, s2⟩ := fin _ hst
                simp -dsimp only [↓SD, SP, ↓reduceIte, Nat.reduceEqDiff, ini, frz, rdAo, rd3o, rd2o, rdpo, rd1o, fnv, intv, VOp.dst, getRo, solEo, solo, solo1, allsz, List.all_cons, List.all_nil, Bool.and_true, beq_self_eq_true, List.length_cons, List.length_nil, Nat.zero_add, srcv, Nat.le_refl, List.take_succ_cons, List.take_zero, and_self, if_true, Nat.reduceAdd, Nat.reduceLT, eq_self, h0, h1, h5, h7, h8, hk, x_strs _ _ hik, x_strs _ _ hkk, he, a1, a2, b2, b3, x1, x2, y1, y2, w1, w2, hc, s1, wrap64 ((k : Int) - 1) (by omega)]
                refine hK' k _ _ _ rfl ⟨by omega, ?_, ?_, ?_, ?_, ?_, s2⟩
                · simp -dsimp only [↓SD, SP, ↓reduceIte, Nat.reduceEqDiff, ini, frz, rdAo, rd3o, rd2o, rdpo, rd1o, fnv, intv, VOp.dst, getRo, solEo, solo, solo1, allsz, List.all_cons, List.all_nil, Bool.and_true, beq_self_eq_true, List.length_cons, List.length_nil, Nat.zero_add, srcv, Nat.le_refl, List.take_succ_cons, List.take_zero, and_self, if_true, Nat.reduceAdd, Nat.reduceLT, eq_self, h0]
                · simp -dsimp only [↓SD, SP, ↓reduceIte, Nat.reduceEqDiff, ini, frz, rdAo, rd3o, rd2o, rdpo, rd1o, fnv, intv, VOp.dst, getRo, solEo, solo, solo1, allsz, List.all_cons, List.all_nil, Bool.and_true, beq_self_eq_true, List.length_cons, List.length_nil, Nat.zero_add, srcv, Nat.le_refl, List.take_succ_cons, List.take_zero, and_self, if_true, Nat.reduceAdd, Nat.reduceLT, eq_self, h1]
                · simp -dsimp only [↓SD, SP, ↓reduceIte, Nat.reduceEqDiff, ini, frz, rdAo, rd3o, rd2o, rdpo, rd1o, fnv, intv, VOp.dst, getRo, solEo, solo, solo1, allsz, List.all_cons, List.all_nil, Bool.and_true, beq_self_eq_true, List.length_cons, List.length_nil, Nat.zero_add, srcv, Nat.le_refl, List.take_succ_cons, List.take_zero, and_self, if_true, Nat.reduceAdd, Nat.reduceLT, eq_self, h5]
                · simp -dsimp only [↓SD, SP, ↓reduceIte, Nat.reduceEqDiff, ini, frz, rdAo, rd3o, rd2o, rdpo, rd1o, fnv, intv, VOp.dst, getRo, solEo, solo, solo1, allsz, List.all_cons, List.all_nil, Bool.and_true, beq_self_eq_true, List.length_cons, List.length_nil, Nat.zero_add, srcv, Nat.le_refl, List.take_succ_cons, List.take_zero, and_self, if_true, Nat.reduceAdd, Nat.reduceLT, eq_self, h7]
                · simp -dsimp only [↓SD, SP, ↓reduceIte, Nat.reduceEqDiff, ini, frz, rdAo, rd3o, rd2o, rdpo, rd1o, fnv, intv, VOp.dst, getRo, solEo, solo, solo1, allsz, List.all_cons, List.all_nil, Bool.and_true, beq_self_eq_true, List.length_cons, List.length_nil, Nat.zero_add, srcv, Nat.le_refl, List.take_succ_cons, List.take_zero, and_self, if_true, Nat.reduceAdd, Nat.reduceLT, eq_self]
              · rw [Nat.max_eq_right (by omega)] at hst
                obtain ⟨H', s1, s2⟩ := fin _ hst
                simp -dsimp only [↓SD, SP, ↓reduceIte, Nat.reduceEqDiff, ini, frz, rdAo, rd3o, rd2o, rdpo, rd1o, fnv, intv, VOp.dst, getRo, solEo, solo, solo1, allsz, List.all_cons, List.all_nil, Bool.and_true, beq_self_eq_true, List.length_cons, List.length_nil, Nat.zero_add, srcv, Nat.le_refl, List.take_succ_cons, List.take_zero, and_self, if_true, Nat.reduceAdd, Nat.reduceLT, eq_self, h0, h1, h5, h7, h8, hk, x_strs _ _ hik, x_strs _ _ hkk, he, a1, a2, b2, b3, x1, x2, y1, y2, w1, w2, hc, s1, wrap64 ((k : Int) - 1) (by omega)]
                refine hK' k _ _ _ rfl ⟨by omega, ?_, ?_, ?_, ?_, ?_, s2⟩
                · simp -dsimp only [↓SD, SP, ↓reduceIte, Nat.reduceEqDiff, ini, frz, rdAo, rd3o, rd2o, rdpo, rd1o, fnv, intv, VOp.dst, getRo, solEo, solo, solo1, allsz, List.all_cons, List.all_nil, Bool.and_true, beq_self_eq_true, List.length_cons, List.length_nil, Nat.zero_add, srcv, Nat.le_refl, List.take_succ_cons, List.take_zero, and_self, if_true, Nat.reduceAdd, Nat.reduceLT, eq_self, h0]
                · simp -dsimp only [↓SD, SP, ↓reduceIte, Nat.reduceEqDiff, ini, frz, rdAo, rd3o, rd2o, rdpo, rd1o, fnv, intv, VOp.dst, getRo, solEo, solo, solo1, allsz, List.all_cons, List.all_nil, Bool.and_true, beq_self_eq_true, List.length_cons, List.length_nil, Nat.zero_add, srcv, Nat.le_refl, List.take_succ_cons, List.take_zero, and_self, if_true, Nat.reduceAdd, Nat.reduceLT, eq_self, h1]
                · simp -dsimp only [↓SD, SP, ↓reduceIte, Nat.reduceEqDiff, ini, frz, rdAo, rd3o, rd2o, rdpo, rd1o, fnv, intv, VOp.dst, getRo, solEo, solo, solo1, allsz, List.all_cons, List.all_nil, Bool.and_true, beq_self_eq_true, List.length_cons, List.length_nil, Nat.zero_add, srcv, Nat.le_refl, List.take_succ_cons, List.take_zero, and_self, if_true, Nat.reduceAdd, Nat.reduceLT, eq_self, h5]
                · simp -dsimp only [↓SD, SP, ↓reduceIte, Nat.reduceEqDiff, ini, frz, rdAo, rd3o, rd2o, rdpo, rd1o, fnv, intv, VOp.dst, getRo, solEo, solo, solo1, allsz, List.all_cons, List.all_nil, Bool.and_true, beq_self_eq_true, List.length_cons, List.length_nil, Nat.zero_add, srcv, Nat.le_refl, List.take_succ_cons, List.take_zero, and_self, if_true, Nat.reduceAdd, Nat.reduceLT, eq_self, h7]
                · simp -dsimp only [↓SD, SP, ↓reduceIte, Nat.reduceEqDiff, ini, frz, rdAo, rd3o, rd2o, rdpo, rd1o, fnv, intv, VOp.dst, getRo, solEo, solo, solo1, allsz, List.all_cons, List.all_nil, Bool.and_true, beq_self_eq_true, List.length_cons, List.length_nil, Nat.zero_add, srcv, Nat.le_refl, List.take_succ_cons, List.take_zero, and_self, if_true, Nat.reduceAdd, Nat.reduceLT, eq_self]
          · obtain rfl : p = 0 := by omega
            simp -dsimp only [↓SD, SP, ↓reduceIte, Nat.reduceEqDiff, ini, frz, rdAo, rd3o, rd2o, rdpo, rd1o, fnv, intv, VOp.dst, getRo, solEo, solo, solo1, allsz, List.all_cons, List.all_nil, Bool.and_true, beq_self_eq_true, List.length_cons, List.length_nil, Nat.zero_add, srcv, Nat.le_refl, List.take_succ_cons, List.take_zero, and_self, if_true, Nat.reduceAdd, Nat.reduceLT, eq_self, h8, hk]
            refine hQ' _ _ _ _ ⟨rfl, h0, h1, h5, h7, hT.ext fun j q _ _ => ?_⟩
            by_cases hij : i ≤ j
            · rw [if_pos hij, if_pos (by omega)]
            · rw [if_neg hij, if_neg (by omega)]
      · obtain rfl : m = 0 := by omega
        simp -dsimp only [↓SD, SP, ↓reduceIte, Nat.reduceEqDiff, ini, frz, rdAo, rd3o, rd2o, rdpo, rd1o, fnv, intv, VOp.dst, getRo, solEo, solo, solo1, allsz, List.all_cons, List.all_nil, Bool.and_true, beq_self_eq_true, List.length_cons, List.length_nil, Nat.zero_add, srcv, Nat.le_refl, List.take_succ_cons, List.take_zero, and_self, if_true, Nat.reduceAdd, Nat.reduceLT, eq_self, h7, hi]
        exact hQ _ _ _ _ ⟨rfl, h5, hT.ext fun j q _ _ => if_pos (Nat.zero_le _)⟩
  · rintro m E H n Q K ⟨i, bt, bs, hm, h0, h1, h5, h6, hT, hlt⟩ hQ hK
    by_cases hi : (i : Int) ≤ xs.length
    · simp -dsimp only [↓SD, SP, ↓reduceIte, Nat.reduceEqDiff, ini, frz, rdAo, rd3o, rd2o, rdpo, rd1o, fnv, intv, VOp.dst, getRo, solEo, solo, solo1, allsz, List.all_cons, List.all_nil, Bool.and_true, beq_self_eq_true, List.length_cons, List.length_nil, Nat.zero_add, srcv, Nat.le_refl, List.take_succ_cons, List.take_zero, and_self, if_true, Nat.reduceAdd, Nat.reduceLT, eq_self, h0, h1, h5, h6, l_strs, hi, wrap64 ((ys.length : Int) + 1) (by omega)]
      refine mk_key (fun b => b + 1000) (by omega) fun b hb => ?_
      simp -dsimp only [↓SD, SP, ↓reduceIte, Nat.reduceEqDiff, ini, frz, rdAo, rd3o, rd2o, rdpo, rd1o, fnv, intv, VOp.dst, getRo, solEo, solo, solo1, allsz, List.all_cons, List.all_nil, Bool.and_true, beq_self_eq_true, List.length_cons, List.length_nil, Nat.zero_add, srcv, Nat.le_refl, List.take_succ_cons, List.take_zero, and_self, if_true, Nat.reduceAdd, Nat.reduceLT, eq_self, show ((ys.length : Int) + 1).toNat = ys.length + 1 by omega]
      refine bal_mk fun b2 hb2 => ?_
      obtain ⟨ex, ht⟩ := hT.top
      simp -dsimp only [↓SD, SP, ↓reduceIte, Nat.reduceEqDiff, ini, frz, rdAo, rd3o, rd2o, rdpo, rd1o, fnv, intv, VOp.dst, getRo, solEo, solo, solo1, allsz, List.all_cons, List.all_nil, Bool.and_true, beq_self_eq_true, List.length_cons, List.length_nil, Nat.zero_add, srcv, Nat.le_refl, List.take_succ_cons, List.take_zero, and_self, if_true, Nat.reduceAdd, Nat.reduceLT, eq_self, show ((ys.length : Int) + 1).toNat = ys.length + 1 by omega, h5]
      refine app_own (xs := (List.range i).map (fun j => AV.own (bs j + 1000) (bs j) 1 (ys.length + 1))) (row := false) (ex := ex) ?_ (by simp) (by simp) (by simp; omega) (by simp; omega) fun b' n' g1 g2 => ?_
      · rw [updH_at, if_neg (by omega), updH_at, if_neg (by omega), ht]
      simp -dsimp only [↓SD, SP, ↓reduceIte, Nat.reduceEqDiff, ini, frz, rdAo, rd3o, rd2o, rdpo, rd1o, fnv, intv, VOp.dst, getRo, solEo, solo, solo1, allsz, List.all_cons, List.all_nil, Bool.and_true, beq_self_eq_true, List.length_cons, List.length_nil, Nat.zero_add, srcv, Nat.le_refl, List.take_succ_cons, List.take_zero, and_self, if_true, Nat.reduceAdd, Nat.reduceLT, eq_self, h6, wrap64 ((i : Int) + 1) (by omega)]
      refine hK (m - 1) _ _ _ (by omega) ⟨i + 1, b', fun j => if j = i then b else bs j, by omega, ?_, ?_, ?_, ?_, ⟨⟨false, ?_⟩, fun j hj => ?_, fun j j' hj hj' he => ?_⟩, fun j hj => ?_⟩
      · simp -dsimp only [↓SD, SP, ↓reduceIte, Nat.reduceEqDiff, ini, frz, rdAo, rd3o, rd2o, rdpo, rd1o, fnv, intv, VOp.dst, getRo, solEo, solo, solo1, allsz, List.all_cons, List.all_nil, Bool.and_true, beq_self_eq_true, List.length_cons, List.length_nil, Nat.zero_add, srcv, Nat.le_refl, List.take_succ_cons, List.take_zero, and_self, if_true, Nat.reduceAdd, Nat.reduceLT, eq_self, h0]
      · simp -dsimp only [↓SD, SP, ↓reduceIte, Nat.reduceEqDiff, ini, frz, rdAo, rd3o, rd2o, rdpo, rd1o, fnv, intv, VOp.dst, getRo, solEo, solo, solo1, allsz, List.all_cons, List.all_nil, Bool.and_true, beq_self_eq_true, List.length_cons, List.length_nil, Nat.zero_add, srcv, Nat.le_refl, List.take_succ_cons, List.take_zero, and_self, if_true, Nat.reduceAdd, Nat.reduceLT, eq_self, h1]
      · simp -dsimp only [↓SD, SP, ↓reduceIte, Nat.reduceEqDiff, ini, frz, rdAo, rd3o, rd2o, rdpo, rd1o, fnv, intv, VOp.dst, getRo, solEo, solo, solo1, allsz, List.all_cons, List.all_nil, Bool.and_true, beq_self_eq_true, List.length_cons, List.length_nil, Nat.zero_add, srcv, Nat.le_refl, List.take_succ_cons, List.take_zero, and_self, if_true, Nat.reduceAdd, Nat.reduceLT, eq_self]
      · simp -dsimp only [↓SD, SP, ↓reduceIte, Nat.reduceEqDiff, ini, frz, rdAo, rd3o, rd2o, rdpo, rd1o, fnv, intv, VOp.dst, getRo, solEo, solo, solo1, allsz, List.all_cons, List.all_nil, Bool.and_true, beq_self_eq_true, List.length_cons, List.length_nil, Nat.zero_add, srcv, Nat.le_refl, List.take_succ_cons, List.take_zero, and_self, if_true, Nat.reduceAdd, Nat.reduceLT, eq_self, iv, Int.natCast_add, Int.natCast_one]
      · rw [updH_at, if_pos rfl, List.range_succ, List.map_append]
        congr 3
        · exact List.map_congr_left fun j hj => by simp only [if_neg (Nat.ne_of_lt (List.mem_range.1 hj))]
        · simp
      · simp only [updH_at]
        rw [if_neg (by omega), if_neg (by omega)]
        by_cases hji : j = i
        · subst hji
          rw [if_pos rfl, if_pos (by rfl), show ((ys.length : Int) + 1).toNat = ys.length + 1 by omega, rep_tab]
        · have := hlt j (by omega)
          rw [if_neg hji, if_neg (by omega), hT.row j (by omega)]
      · by_cases hji : j = i
        · by_cases hji' : j' = i
          · rw [hji, hji']
          · have := hlt j' (by omega)
            simp only [if_pos hji, if_neg hji'] at he
            omega
        · by_cases hji' : j' = i
          · have := hlt j (by omega)
            simp only [if_neg hji, if_pos hji'] at he
            omega
          · simp only [if_neg hji, if_neg hji'] at he
            exact hT.inj j j' (by omega) (by omega) he
      · by_cases hji : j = i
        · simp only [if_pos hji]
          omega
        · have := hlt j (by omega)
          simp only [if_neg hji]
          omega
    · simp -dsimp only [↓SD, SP, ↓reduceIte, Nat.reduceEqDiff, ini, frz, rdAo, rd3o, rd2o, rdpo, rd1o, fnv, intv, VOp.dst, getRo, solEo, solo, solo1, allsz, List.all_cons, List.all_nil, Bool.and_true, beq_self_eq_true, List.length_cons, List.length_nil, Nat.zero_add, srcv, Nat.le_refl, List.take_succ_cons, List.take_zero, and_self, if_true, Nat.reduceAdd, Nat.reduceLT, eq_self, h0, h6, l_strs, hi]
      obtain rfl : i = xs.length + 1 := by omega
      exact hQ _ _ _ _ ⟨rfl, h0, h1, bt, bs, h5, hT⟩
end Go.AVM

/- DiffMany: the reference's, the program's, the law. -/
set_option linter.unusedSimpArgs false
set_option linter.unusedVariables false
namespace Go.AVM
theorem textOk_len {xs : List ByteArray} (h : textOk xs = true) : xs.length ≤ 10 := by
  simp [textOk] at h
  exact h.2
theorem OK.weak {P : Program} {f : FuncId} {args : List AV} {R R' : Nat → Nat → AV → Prop} (h : OK P f args R) (hr : ∀ lo hi r, R lo hi r → R' lo hi r) : OK P f args R' :=
  h.imp (fun h => ⟨h.1, fun w S vs hS hvs => (h.2 w S vs hS hvs).mono fun _ _ ⟨v, r, hi, h1, h2, h3, h4, h5⟩ => ⟨v, r, hi, h1, h2, h3, hr _ _ _ h4, h5⟩⟩) fun h w S vs hS hvs => let ⟨v, r, h1, h2, h3, h4⟩ := h w S vs hS hvs; ⟨v, r, h1, h2, hr _ _ _ h3, h4⟩
theorem OKM.weak {P : Program} {f : FuncId} {args : List AV} {H0 : Hp} {R R' : Nat → Nat → AV → Hp → Prop} (h : OKM P f args H0 R) (hr : ∀ lo hi r H', R lo hi r H' → R' lo hi r H') : OKM P f args H0 R' :=
  ⟨h.1, fun w S vs hS hvs hb hi => (h.2 w S vs hS hvs hb hi).mono fun _ _ ⟨v, r, hi, H', h1, h2, h3, h4, h5⟩ => ⟨v, r, hi, H', h1, h2, h3, hr _ _ _ _ h4, h5⟩⟩
/-- a list that toStringS has made -/
def IsStr (lo hi : Nat) (xs : List ByteArray) (r : AV) : Prop := (xs = [] ∧ r = .emp) ∨ ∃ g, lo ≤ g ∧ g < hi ∧ r = .lsl (some (g, 1)) xs.length ((roomy xs).map .str)
theorem IsStr.rd {lo hi : Nat} {xs : List ByteArray} {r : AV} (h : IsStr lo hi xs r) (H : Hp) : rd3o false H r = some (strs xs, []) := by
  rcases h with ⟨rfl, rfl⟩ | ⟨g, _, _, rfl⟩
  · exact rd_emp H
  · exact rd_roomy H _ xs
theorem IsStr.res {lo hi : Nat} {xs : List ByteArray} {r : AV} (h : IsStr lo hi xs r) (d lo' hi' : Nat) (ks : List Nat) (E : Env) (H : Hp) (K : Env → Hp → Nat → Prop) : bres false d lo' hi' E H ks r K = K (upd E d r) (frz H ks) hi' := by
  rcases h with ⟨rfl, rfl⟩ | ⟨g, _, _, rfl⟩
  · exact r_emp ..
  · exact r_lsl ..
theorem s_toStringS (xs : List ByteArray) (b : Bool) (h : okL xs) : OK Go.Proofs.Try.prog 8 [strs xs, .bool b] (fun lo hi r => IsStr lo hi xs r ∧ (b = false → ∃ g, lo ≤ g ∧ g < hi ∧ r = .lsl (some (g, 1)) xs.length ((roomy xs).map .str))) :=
  (s17 xs b h).weak fun lo hi r hr => by
    by_cases hc : b = true ∧ xs = []
    · rw [if_pos hc] at hr
      exact ⟨.inl ⟨hc.2, hr⟩, fun hb => by rw [hb] at hc; cases hc.1⟩
    · rw [if_neg hc] at hr
      exact ⟨.inr hr, fun _ => hr⟩
def dm (xs ys : List ByteArray) : Int := if textOk xs = true ∧ textOk ys = true then (xs.length + ys.length : Int) - 2 * (lc xs ys : Int) else -1
theorem s15' (xs : List ByteArray) (k : Nat) (hk : k ≤ 1000000) (h : xs.length ≤ 9223372036854775807 ∧ ∀ s ∈ xs, s.size ≤ 9223372036854775807) :
    OK Go.Proofs.Try.prog 5 [strs xs, .int .i64 k] (fun _ _ r => ∃ i : Int, r = .int .i64 i ∧ (0 ≤ i → okL xs ∧ ∃ k' : Nat, i = k' ∧ k' ≤ k)) :=
  (s15 xs k hk h).weak fun lo hi r ⟨i, hr, hi⟩ => ⟨i, hr, fun h0 => ⟨okL_of hk h0 (hi h0), i.toNat, by omega, by have := hi h0; omega⟩⟩
theorem s19' (xs : List ByteArray) (h : okL xs) : OK Go.Proofs.Try.prog 12 [.lsl none xs.length ((roomy xs).map .str), .lsl none xs.length ((roomy xs).map .str)] (fun _ _ r => r = .bool true) :=
  (s19 xs.length (roomy xs) (roomy xs) h.1 (roomy_len xs) (roomy_len xs)).weak fun lo hi r hr => by simpa using hr

end Go.AVM
