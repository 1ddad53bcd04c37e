import Derived.Test.YtnanbjnadkoekaaDoorFA1
set_option linter.unusedSimpArgs false
namespace Go.AVM
/-- slices.ContainsFunc -/
theorem s55 (p : ByteArray → Bool) (f : Nat) (xs : List ByteArray) (h : okL xs) (hf : ∀ s ∈ xs, OK Go.Proofs.Tryd.prog f [.str s] (fun _ _ r => r = .bool (p s))) :
    OK Go.Proofs.Tryd.prog 44 [strs xs, .fn f []] (fun _ _ r => r = .bool (xs.any p)) := by
  refine fn_ok k44 rfl ?_
  have hs := s83 p f xs h hf
  generalize OK Go.Proofs.Tryd.prog = L at hs ⊢
  intro lo
  simp -dsimp only [↓SD, SP, ↓reduceIte, Nat.reduceEqDiff, ini, frz, rdAo, rd3o, rd2o, rdpo, rd1o, fnv, intv, VOp.dst, getRo, solEo, solo, solo1, allsz, List.all_cons, List.all_nil, Bool.and_true, beq_self_eq_true, List.length_cons, List.length_nil, Nat.zero_add, srcv, Nat.le_refl, List.take_succ_cons, List.take_zero, and_self, if_true, Nat.reduceAdd, Nat.reduceLT, eq_self, c44, ↓rd_strs, rds2o]
  refine call_rule hs ?_
  rintro lo' hi r g1 g2 ⟨k, rfl, hk⟩
  simp -dsimp only [↓SD, SP, ↓reduceIte, Nat.reduceEqDiff, ini, frz, rdAo, rd3o, rd2o, rdpo, rd1o, fnv, intv, VOp.dst, getRo, solEo, solo, solo1, allsz, List.all_cons, List.all_nil, Bool.and_true, beq_self_eq_true, List.length_cons, List.length_nil, Nat.zero_add, srcv, Nat.le_refl, List.take_succ_cons, List.take_zero, and_self, if_true, Nat.reduceAdd, Nat.reduceLT, eq_self, hk]
/-- impl.TextOk -/
theorem s18 (xs : List ByteArray) (h : okL xs) : OK Go.Proofs.Tryd.prog 55 [strs xs] (fun _ _ r => r = .bool (textOk xs)) := by
  refine fn_ok k55 rfl ?_
  have hs := s55 (fun s => !lineOk s) 88 xs h (fun s hs => s56 s (h.2 s hs))
  generalize OK Go.Proofs.Tryd.prog = L at hs ⊢
  intro lo
  by_cases hl : (xs.length : Int) ≤ 10
  · simp -dsimp only [↓SD, SP, ↓reduceIte, Nat.reduceEqDiff, ini, frz, rdAo, rd3o, rd2o, rdpo, rd1o, fnv, intv, VOp.dst, getRo, solEo, solo, solo1, allsz, List.all_cons, List.all_nil, Bool.and_true, beq_self_eq_true, List.length_cons, List.length_nil, Nat.zero_add, srcv, Nat.le_refl, List.take_succ_cons, List.take_zero, and_self, if_true, Nat.reduceAdd, Nat.reduceLT, eq_self, c55, ↓rd_strs, rds2o, l_strs, hl]
    refine call_rule hs ?_
    rintro lo' hi r g1 g2 rfl
    simp -dsimp only [↓SD, SP, ↓reduceIte, Nat.reduceEqDiff, ini, frz, rdAo, rd3o, rd2o, rdpo, rd1o, fnv, intv, VOp.dst, getRo, solEo, solo, solo1, allsz, List.all_cons, List.all_nil, Bool.and_true, beq_self_eq_true, List.length_cons, List.length_nil, Nat.zero_add, srcv, Nat.le_refl, List.take_succ_cons, List.take_zero, and_self, if_true, Nat.reduceAdd, Nat.reduceLT, eq_self]
    simp [textOk, show xs.length ≤ 10 by omega, List.any_eq_not_all_not]
  · simp -dsimp only [↓SD, SP, ↓reduceIte, Nat.reduceEqDiff, ini, frz, rdAo, rd3o, rd2o, rdpo, rd1o, fnv, intv, VOp.dst, getRo, solEo, solo, solo1, allsz, List.all_cons, List.all_nil, Bool.and_true, beq_self_eq_true, List.length_cons, List.length_nil, Nat.zero_add, srcv, Nat.le_refl, List.take_succ_cons, List.take_zero, and_self, if_true, Nat.reduceAdd, Nat.reduceLT, eq_self, c55, l_strs, hl]
    simp [textOk, show ¬ xs.length ≤ 10 by omega]
/-- laws.eqStringS -/
theorem s49 (xs ys : List ByteArray) (h : xs.length ≤ 10000000) : OK Go.Proofs.Tryd.prog 24 [strs xs, strs ys] (fun _ _ r => r = .bool (decide (xs = ys))) := by
  refine fn_ok k24 rfl ?_
  generalize OK Go.Proofs.Tryd.prog = L
  intro lo
  by_cases hl : (xs.length : Int) = ys.length
  · have hl' : xs.length = ys.length := by omega
    simp -dsimp only [↓SD, SP, ↓reduceIte, Nat.reduceEqDiff, ini, frz, rdAo, rd3o, rd2o, rdpo, rd1o, fnv, intv, VOp.dst, getRo, solEo, solo, solo1, allsz, List.all_cons, List.all_nil, Bool.and_true, beq_self_eq_true, List.length_cons, List.length_nil, Nat.zero_add, srcv, Nat.le_refl, List.take_succ_cons, List.take_zero, and_self, if_true, Nat.reduceAdd, Nat.reduceLT, eq_self, c24, l_strs, hl]
    refine loop_rule (fun m E H n => ∃ i : Nat, m + i = xs.length ∧ E 0 = strs xs ∧ E 1 = strs ys ∧ E 5 = .int .i64 i ∧ xs.take i = ys.take i)
      (fun e E H n => (e = .exit 0 ∧ xs = ys) ∨ (e = .ret ∧ E 4 = .bool false ∧ xs ≠ ys)) xs.length ⟨0, rfl, rfl, rfl, rfl, rfl⟩ ?_ ?_
    · rintro e E H n (⟨rfl, rfl⟩ | ⟨rfl, h2, h3⟩)
      · simp -dsimp only [↓SD, SP, ↓reduceIte, Nat.reduceEqDiff, ini, frz, rdAo, rd3o, rd2o, rdpo, rd1o, fnv, intv, VOp.dst, getRo, solEo, solo, solo1, allsz, List.all_cons, List.all_nil, Bool.and_true, beq_self_eq_true, List.length_cons, List.length_nil, Nat.zero_add, srcv, Nat.le_refl, List.take_succ_cons, List.take_zero, and_self, if_true, Nat.reduceAdd, Nat.reduceLT, eq_self]
      · simp -dsimp only [↓SD, SP, ↓reduceIte, Nat.reduceEqDiff, ini, frz, rdAo, rd3o, rd2o, rdpo, rd1o, fnv, intv, VOp.dst, getRo, solEo, solo, solo1, allsz, List.all_cons, List.all_nil, Bool.and_true, beq_self_eq_true, List.length_cons, List.length_nil, Nat.zero_add, srcv, Nat.le_refl, List.take_succ_cons, List.take_zero, and_self, if_true, Nat.reduceAdd, Nat.reduceLT, eq_self, h2]
        simp [h3]
    · rintro m E H n Q K ⟨i, hm, h0, h1, h5, hp⟩ hQ hK
      by_cases hi : i < xs.length
      · have hj : i < ys.length := by omega
        by_cases he : xs[i] = ys[i]
        · simp -dsimp only [↓SD, SP, ↓reduceIte, Nat.reduceEqDiff, ini, frz, rdAo, rd3o, rd2o, rdpo, rd1o, fnv, intv, VOp.dst, getRo, solEo, solo, solo1, allsz, List.all_cons, List.all_nil, Bool.and_true, beq_self_eq_true, List.length_cons, List.length_nil, Nat.zero_add, srcv, Nat.le_refl, List.take_succ_cons, List.take_zero, and_self, if_true, Nat.reduceAdd, Nat.reduceLT, eq_self, h0, h1, h5, l_strs, Int.ofNat_lt, hi, x_strs _ _ hi, x_strs _ _ hj, he, wrap64 ((i : Int) + 1) (by omega)]
          refine hK (m - 1) _ _ _ (by omega) ⟨i + 1, by omega, ?_, ?_, ?_, ?_⟩
          · simp -dsimp only [↓SD, SP, ↓reduceIte, Nat.reduceEqDiff, ini, frz, rdAo, rd3o, rd2o, rdpo, rd1o, fnv, intv, VOp.dst, getRo, solEo, solo, solo1, allsz, List.all_cons, List.all_nil, Bool.and_true, beq_self_eq_true, List.length_cons, List.length_nil, Nat.zero_add, srcv, Nat.le_refl, List.take_succ_cons, List.take_zero, and_self, if_true, Nat.reduceAdd, Nat.reduceLT, eq_self, h0]
          · simp -dsimp only [↓SD, SP, ↓reduceIte, Nat.reduceEqDiff, ini, frz, rdAo, rd3o, rd2o, rdpo, rd1o, fnv, intv, VOp.dst, getRo, solEo, solo, solo1, allsz, List.all_cons, List.all_nil, Bool.and_true, beq_self_eq_true, List.length_cons, List.length_nil, Nat.zero_add, srcv, Nat.le_refl, List.take_succ_cons, List.take_zero, and_self, if_true, Nat.reduceAdd, Nat.reduceLT, eq_self, h1]
          · simp -dsimp only [↓SD, SP, ↓reduceIte, Nat.reduceEqDiff, ini, frz, rdAo, rd3o, rd2o, rdpo, rd1o, fnv, intv, VOp.dst, getRo, solEo, solo, solo1, allsz, List.all_cons, List.all_nil, Bool.and_true, beq_self_eq_true, List.length_cons, List.length_nil, Nat.zero_add, srcv, Nat.le_refl, List.take_succ_cons, List.take_zero, and_self, if_true, Nat.reduceAdd, Nat.reduceLT, eq_self, Int.natCast_add, Int.natCast_one]
          · rw [List.take_succ_eq_append_getElem hi, List.take_succ_eq_append_getElem hj, hp, he]
        · simp -dsimp only [↓SD, SP, ↓reduceIte, Nat.reduceEqDiff, ini, frz, rdAo, rd3o, rd2o, rdpo, rd1o, fnv, intv, VOp.dst, getRo, solEo, solo, solo1, allsz, List.all_cons, List.all_nil, Bool.and_true, beq_self_eq_true, List.length_cons, List.length_nil, Nat.zero_add, srcv, Nat.le_refl, List.take_succ_cons, List.take_zero, and_self, if_true, Nat.reduceAdd, Nat.reduceLT, eq_self, h0, h1, h5, l_strs, Int.ofNat_lt, hi, x_strs _ _ hi, x_strs _ _ hj, he]
          refine hQ _ _ _ _ (.inr ⟨rfl, ?_, fun e => he (by subst e; rfl)⟩)
          simp -dsimp only [↓SD, SP, ↓reduceIte, Nat.reduceEqDiff, ini, frz, rdAo, rd3o, rd2o, rdpo, rd1o, fnv, intv, VOp.dst, getRo, solEo, solo, solo1, allsz, List.all_cons, List.all_nil, Bool.and_true, beq_self_eq_true, List.length_cons, List.length_nil, Nat.zero_add, srcv, Nat.le_refl, List.take_succ_cons, List.take_zero, and_self, if_true, Nat.reduceAdd, Nat.reduceLT, eq_self]
      · simp -dsimp only [↓SD, SP, ↓reduceIte, Nat.reduceEqDiff, ini, frz, rdAo, rd3o, rd2o, rdpo, rd1o, fnv, intv, VOp.dst, getRo, solEo, solo, solo1, allsz, List.all_cons, List.all_nil, Bool.and_true, beq_self_eq_true, List.length_cons, List.length_nil, Nat.zero_add, srcv, Nat.le_refl, List.take_succ_cons, List.take_zero, and_self, if_true, Nat.reduceAdd, Nat.reduceLT, eq_self, h0, h1, h5, l_strs, Int.ofNat_lt, hi]
        refine hQ _ _ _ _ (.inl ⟨rfl, ?_⟩)
        rwa [List.take_of_length_le (by omega), List.take_of_length_le (by omega)] at hp
  · simp -dsimp only [↓SD, SP, ↓reduceIte, Nat.reduceEqDiff, ini, frz, rdAo, rd3o, rd2o, rdpo, rd1o, fnv, intv, VOp.dst, getRo, solEo, solo, solo1, allsz, List.all_cons, List.all_nil, Bool.and_true, beq_self_eq_true, List.length_cons, List.length_nil, Nat.zero_add, srcv, Nat.le_refl, List.take_succ_cons, List.take_zero, and_self, if_true, Nat.reduceAdd, Nat.reduceLT, eq_self, c24, l_strs, hl]
    simp [show xs ≠ ys from fun e => hl (by rw [e])]
/-- laws.szStringS -/
def szs (xs : List ByteArray) : Nat := (xs.map ByteArray.size).sum
theorem s15 (xs : List ByteArray) (k : Nat) (hk : k ≤ 1000000) (h : xs.length ≤ 9223372036854775807 ∧ ∀ s ∈ xs, s.size ≤ 9223372036854775807) :
    OK Go.Proofs.Tryd.prog 69 [strs xs, .int .i64 k] (fun _ _ r => ∃ i : Int, r = .int .i64 i ∧ (0 ≤ i → i + xs.length + szs xs = k)) := by
  refine fn_ok k69 rfl ?_
  generalize OK Go.Proofs.Tryd.prog = L
  intro lo
  have hk2 := h.1
  by_cases hl : (k : Int) - xs.length < 0
  · simp -dsimp only [↓SD, SP, ↓reduceIte, Nat.reduceEqDiff, ini, frz, rdAo, rd3o, rd2o, rdpo, rd1o, fnv, intv, VOp.dst, getRo, solEo, solo, solo1, allsz, List.all_cons, List.all_nil, Bool.and_true, beq_self_eq_true, List.length_cons, List.length_nil, Nat.zero_add, srcv, Nat.le_refl, List.take_succ_cons, List.take_zero, and_self, if_true, Nat.reduceAdd, Nat.reduceLT, eq_self, c69, l_strs, wrap64 ((k : Int) - xs.length) (by omega), hl]
    exact ⟨_, rfl, by omega⟩
  · simp -dsimp only [↓SD, SP, ↓reduceIte, Nat.reduceEqDiff, ini, frz, rdAo, rd3o, rd2o, rdpo, rd1o, fnv, intv, VOp.dst, getRo, solEo, solo, solo1, allsz, List.all_cons, List.all_nil, Bool.and_true, beq_self_eq_true, List.length_cons, List.length_nil, Nat.zero_add, srcv, Nat.le_refl, List.take_succ_cons, List.take_zero, and_self, if_true, Nat.reduceAdd, Nat.reduceLT, eq_self, c69, l_strs, wrap64 ((k : Int) - xs.length) (by omega), hl]
    refine loop_rule (fun m E H n => ∃ (i : Nat) (v : Nat), m + i = xs.length ∧ E 0 = strs xs ∧ E 1 = .int .i64 v ∧ E 5 = .int .i64 i ∧ v + xs.length + szs (xs.take i) = k)
      (fun e E H n => (e = .exit 0 ∧ ∃ i : Int, E 1 = .int .i64 i ∧ (0 ≤ i → i + xs.length + szs xs = k)) ∨ (e = .ret ∧ E 4 = .int .i64 (-1))) xs.length ⟨0, k - xs.length, rfl, rfl, ?_, rfl, ?_⟩ ?_ ?_
    · simp -dsimp only [↓SD, SP, ↓reduceIte, Nat.reduceEqDiff, ini, frz, rdAo, rd3o, rd2o, rdpo, rd1o, fnv, intv, VOp.dst, getRo, solEo, solo, solo1, allsz, List.all_cons, List.all_nil, Bool.and_true, beq_self_eq_true, List.length_cons, List.length_nil, Nat.zero_add, srcv, Nat.le_refl, List.take_succ_cons, List.take_zero, and_self, if_true, Nat.reduceAdd, Nat.reduceLT, eq_self, show ((k - xs.length : Nat) : Int) = (k : Int) - xs.length by omega]
    · simp [szs]; omega
    · rintro e E H n (⟨rfl, i, h1, h2⟩ | ⟨rfl, h2⟩)
      · simp -dsimp only [↓SD, SP, ↓reduceIte, Nat.reduceEqDiff, ini, frz, rdAo, rd3o, rd2o, rdpo, rd1o, fnv, intv, VOp.dst, getRo, solEo, solo, solo1, allsz, List.all_cons, List.all_nil, Bool.and_true, beq_self_eq_true, List.length_cons, List.length_nil, Nat.zero_add, srcv, Nat.le_refl, List.take_succ_cons, List.take_zero, and_self, if_true, Nat.reduceAdd, Nat.reduceLT, eq_self, h1]
        exact ⟨_, rfl, h2⟩
      · simp -dsimp only [↓SD, SP, ↓reduceIte, Nat.reduceEqDiff, ini, frz, rdAo, rd3o, rd2o, rdpo, rd1o, fnv, intv, VOp.dst, getRo, solEo, solo, solo1, allsz, List.all_cons, List.all_nil, Bool.and_true, beq_self_eq_true, List.length_cons, List.length_nil, Nat.zero_add, srcv, Nat.le_refl, List.take_succ_cons, List.take_zero, and_self, if_true, Nat.reduceAdd, Nat.reduceLT, eq_self, h2]
        exact ⟨_, rfl, by omega⟩
    · rintro m E H n Q K ⟨i, v, hm, h0, h1, h5, hp⟩ hQ hK
      by_cases hi : i < xs.length
      · have hsz := h.2 xs[i] (List.getElem_mem hi)
        have hst : szs (xs.take (i + 1)) = szs (xs.take i) + xs[i].size := by
          rw [List.take_succ_eq_append_getElem hi]
          simp only [szs, List.map_append, List.sum_append, List.map_cons, List.map_nil, List.sum_cons, List.sum_nil, Nat.add_zero]
        by_cases hneg : (v : Int) - xs[i].size < 0
        · simp -dsimp only [↓SD, SP, ↓reduceIte, Nat.reduceEqDiff, ini, frz, rdAo, rd3o, rd2o, rdpo, rd1o, fnv, intv, VOp.dst, getRo, solEo, solo, solo1, allsz, List.all_cons, List.all_nil, Bool.and_true, beq_self_eq_true, List.length_cons, List.length_nil, Nat.zero_add, srcv, Nat.le_refl, List.take_succ_cons, List.take_zero, and_self, if_true, Nat.reduceAdd, Nat.reduceLT, eq_self, h0, h1, h5, l_strs, Int.ofNat_lt, hi, x_strs _ _ hi, wrap64 ((v : Int) - xs[i].size) (by omega), hneg]
          refine hQ _ _ _ _ (.inr ⟨rfl, ?_⟩)
          simp -dsimp only [↓SD, SP, ↓reduceIte, Nat.reduceEqDiff, ini, frz, rdAo, rd3o, rd2o, rdpo, rd1o, fnv, intv, VOp.dst, getRo, solEo, solo, solo1, allsz, List.all_cons, List.all_nil, Bool.and_true, beq_self_eq_true, List.length_cons, List.length_nil, Nat.zero_add, srcv, Nat.le_refl, List.take_succ_cons, List.take_zero, and_self, if_true, Nat.reduceAdd, Nat.reduceLT, eq_self]
        · simp -dsimp only [↓SD, SP, ↓reduceIte, Nat.reduceEqDiff, ini, frz, rdAo, rd3o, rd2o, rdpo, rd1o, fnv, intv, VOp.dst, getRo, solEo, solo, solo1, allsz, List.all_cons, List.all_nil, Bool.and_true, beq_self_eq_true, List.length_cons, List.length_nil, Nat.zero_add, srcv, Nat.le_refl, List.take_succ_cons, List.take_zero, and_self, if_true, Nat.reduceAdd, Nat.reduceLT, eq_self, h0, h1, h5, l_strs, Int.ofNat_lt, hi, x_strs _ _ hi, wrap64 ((v : Int) - xs[i].size) (by omega), hneg, wrap64 ((i : Int) + 1) (by omega)]
          refine hK (m - 1) _ _ _ (by omega) ⟨i + 1, v - xs[i].size, by omega, ?_, ?_, ?_, by omega⟩
          · simp -dsimp only [↓SD, SP, ↓reduceIte, Nat.reduceEqDiff, ini, frz, rdAo, rd3o, rd2o, rdpo, rd1o, fnv, intv, VOp.dst, getRo, solEo, solo, solo1, allsz, List.all_cons, List.all_nil, Bool.and_true, beq_self_eq_true, List.length_cons, List.length_nil, Nat.zero_add, srcv, Nat.le_refl, List.take_succ_cons, List.take_zero, and_self, if_true, Nat.reduceAdd, Nat.reduceLT, eq_self, h0]
          · simp -dsimp only [↓SD, SP, ↓reduceIte, Nat.reduceEqDiff, ini, frz, rdAo, rd3o, rd2o, rdpo, rd1o, fnv, intv, VOp.dst, getRo, solEo, solo, solo1, allsz, List.all_cons, List.all_nil, Bool.and_true, beq_self_eq_true, List.length_cons, List.length_nil, Nat.zero_add, srcv, Nat.le_refl, List.take_succ_cons, List.take_zero, and_self, if_true, Nat.reduceAdd, Nat.reduceLT, eq_self, show ((v - xs[i].size : Nat) : Int) = (v : Int) - xs[i].size by omega]
          · simp -dsimp only [↓SD, SP, ↓reduceIte, Nat.reduceEqDiff, ini, frz, rdAo, rd3o, rd2o, rdpo, rd1o, fnv, intv, VOp.dst, getRo, solEo, solo, solo1, allsz, List.all_cons, List.all_nil, Bool.and_true, beq_self_eq_true, List.length_cons, List.length_nil, Nat.zero_add, srcv, Nat.le_refl, List.take_succ_cons, List.take_zero, and_self, if_true, Nat.reduceAdd, Nat.reduceLT, eq_self, Int.natCast_add, Int.natCast_one]
      · simp -dsimp only [↓SD, SP, ↓reduceIte, Nat.reduceEqDiff, ini, frz, rdAo, rd3o, rd2o, rdpo, rd1o, fnv, intv, VOp.dst, getRo, solEo, solo, solo1, allsz, List.all_cons, List.all_nil, Bool.and_true, beq_self_eq_true, List.length_cons, List.length_nil, Nat.zero_add, srcv, Nat.le_refl, List.take_succ_cons, List.take_zero, and_self, if_true, Nat.reduceAdd, Nat.reduceLT, eq_self, h0, h1, h5, l_strs, Int.ofNat_lt, hi]
        refine hQ _ _ _ _ (.inl ⟨rfl, v, h1, fun _ => ?_⟩)
        rw [List.take_of_length_le (by omega)] at hp
        omega
/-- laws.intactStringS -/
theorem s19 (n : Nat) (ys zs : List ByteArray) (hn : n ≤ 1000000) (hy : ys.length = n + rm n) (hz : zs.length = n + rm n) :
    OK Go.Proofs.Tryd.prog 75 [.lsl none n (ys.map .str), .lsl none n (zs.map .str)] (fun _ _ r => r = .bool (decide (ys = zs))) := by
  refine fn_ok k75 rfl ?_
  have hrm := rm_le n
  have h54 := s54 n hn
  have h49 := s49 ys zs (by omega)
  generalize OK Go.Proofs.Tryd.prog = L at h54 h49 ⊢
  intro lo
  simp -dsimp only [↓SD, SP, ↓reduceIte, Nat.reduceEqDiff, ini, frz, rdAo, rd3o, rd2o, rdpo, rd1o, fnv, intv, VOp.dst, getRo, solEo, solo, solo1, allsz, List.all_cons, List.all_nil, Bool.and_true, beq_self_eq_true, List.length_cons, List.length_nil, Nat.zero_add, srcv, Nat.le_refl, List.take_succ_cons, List.take_zero, and_self, if_true, Nat.reduceAdd, Nat.reduceLT, eq_self, c75]
  refine call_rule h54 ?_
  rintro lo' hi r g1 g2 rfl
  have e1 : slcv (fun _ => none) 1 (.lsl none n (ys.map .str)) none (some (.int .i64 ((n : Int) + rm n))) = some (strs ys) := by
    simp [slcv, strs, hy, show ((n : Int) + rm n).toNat = n + rm n by omega]
    omega
  have e2 : slcv (fun _ => none) 1 (.lsl none n (zs.map .str)) none (some (.int .i64 ((n : Int) + rm n))) = some (strs zs) := by
    simp [slcv, strs, hz, show ((n : Int) + rm n).toNat = n + rm n by omega]
    omega
  simp -dsimp only [↓SD, SP, ↓reduceIte, Nat.reduceEqDiff, ini, frz, rdAo, rd3o, rd2o, rdpo, rd1o, fnv, intv, VOp.dst, getRo, solEo, solo, solo1, allsz, List.all_cons, List.all_nil, Bool.and_true, beq_self_eq_true, List.length_cons, List.length_nil, Nat.zero_add, srcv, Nat.le_refl, List.take_succ_cons, List.take_zero, and_self, if_true, Nat.reduceAdd, Nat.reduceLT, eq_self, wrap64 ((n : Int) + rm n) (by omega), e1, e2, ↓rd_strs]
  refine call_rule h49 ?_
  rintro lo' hi r g1 g2 rfl
  simp -dsimp only [↓SD, SP, ↓reduceIte, Nat.reduceEqDiff, ini, frz, rdAo, rd3o, rd2o, rdpo, rd1o, fnv, intv, VOp.dst, getRo, solEo, solo, solo1, allsz, List.all_cons, List.all_nil, Bool.and_true, beq_self_eq_true, List.length_cons, List.length_nil, Nat.zero_add, srcv, Nat.le_refl, List.take_succ_cons, List.take_zero, and_self, if_true, Nat.reduceAdd, Nat.reduceLT, eq_self]
end Go.AVM
