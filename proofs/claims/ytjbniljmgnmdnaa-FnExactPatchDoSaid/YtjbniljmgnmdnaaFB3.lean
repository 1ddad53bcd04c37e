/- DiffMany: the reference's, the program's, the law. -/
import Derived.Test.YtjbniljmgnmdnaaFB2
set_option linter.unusedSimpArgs false
set_option linter.unusedVariables false
namespace Go.AVM
theorem textOk_len {xs : List ByteArray} (h : textOk xs = true) : xs.length ≤ 10 := by
  simp [textOk] at h
  exact h.2
theorem OK.weak {P : Program} {f : FuncId} {args : List AV} {R R' : Nat → Nat → AV → Prop} (h : OK P f args R) (hr : ∀ lo hi r, R lo hi r → R' lo hi r) : OK P f args R' :=
  ⟨h.1, fun w S vs hS hvs => (h.2 w S vs hS hvs).mono fun _ _ ⟨v, r, hi, h1, h2, h3, h4, h5⟩ => ⟨v, r, hi, h1, h2, h3, hr _ _ _ h4, h5⟩⟩
theorem OKM.weak {P : Program} {f : FuncId} {args : List AV} {H0 : Hp} {R R' : Nat → Nat → AV → Hp → Prop} (h : OKM P f args H0 R) (hr : ∀ lo hi r H', R lo hi r H' → R' lo hi r H') : OKM P f args H0 R' :=
  ⟨h.1, fun w S vs hS hvs hb hi => (h.2 w S vs hS hvs hb hi).mono fun _ _ ⟨v, r, hi, H', h1, h2, h3, h4, h5⟩ => ⟨v, r, hi, H', h1, h2, h3, hr _ _ _ _ h4, h5⟩⟩
/-- a list that toStringS has made -/
def IsStr (lo hi : Nat) (xs : List ByteArray) (r : AV) : Prop := (xs = [] ∧ r = .emp) ∨ ∃ g, lo ≤ g ∧ g < hi ∧ r = .lsl (some (g, 1)) xs.length ((roomy xs).map .str)
theorem IsStr.rd {lo hi : Nat} {xs : List ByteArray} {r : AV} (h : IsStr lo hi xs r) (H : Hp) : rd3o false H r = some (strs xs, []) := by
  rcases h with ⟨rfl, rfl⟩ | ⟨g, _, _, rfl⟩
  · exact rd_emp H
  · exact rd_roomy H _ xs
theorem IsStr.res {lo hi : Nat} {xs : List ByteArray} {r : AV} (h : IsStr lo hi xs r) (d lo' hi' : Nat) (ks : List Nat) (E : Env) (H : Hp) (K : Env → Hp → Nat → Prop) : bres false d lo' hi' E H ks r K = K (upd E d r) (frz H ks) hi' := by
  rcases h with ⟨rfl, rfl⟩ | ⟨g, _, _, rfl⟩
  · exact r_emp ..
  · exact r_lsl ..
theorem s_toStringS (xs : List ByteArray) (b : Bool) (h : okL xs) : OK Go.Proofs.Try.prog 17 [strs xs, .bool b] (fun lo hi r => IsStr lo hi xs r ∧ (b = false → ∃ g, lo ≤ g ∧ g < hi ∧ r = .lsl (some (g, 1)) xs.length ((roomy xs).map .str))) :=
  (s17 xs b h).weak fun lo hi r hr => by
    by_cases hc : b = true ∧ xs = []
    · rw [if_pos hc] at hr
      exact ⟨.inl ⟨hc.2, hr⟩, fun hb => by rw [hb] at hc; cases hc.1⟩
    · rw [if_neg hc] at hr
      exact ⟨.inr hr, fun _ => hr⟩
def dm (xs ys : List ByteArray) : Int := if textOk xs = true ∧ textOk ys = true then (xs.length + ys.length : Int) - 2 * (lc xs ys : Int) else -1
theorem s_specDiffMany (xs ys : List ByteArray) (hx : okL xs) (hy : okL ys) : OK Go.Proofs.Try.prog 20 [strs xs, strs ys] (fun _ _ r => r = .int .i64 (dm xs ys)) := by
  refine fn_ok k20 rfl ?_
  have h53 := s53 xs hx
  have h53' := s53 ys hy
  have hT := s_l1Table xs ys
  generalize OK Go.Proofs.Try.prog = L at *
  intro lo
  simp -dsimp only [↓SD, SP, ↓reduceIte, Nat.reduceEqDiff, ini, frz, rdAo, rd3o, rd2o, rdpo, rd1o, fnv, intv, VOp.dst, getRo, solEo, solo, solo1, allsz, List.all_cons, List.all_nil, Bool.and_true, beq_self_eq_true, List.length_cons, List.length_nil, Nat.zero_add, srcv, Nat.le_refl, List.take_succ_cons, List.take_zero, and_self, if_true, Nat.reduceAdd, Nat.reduceLT, eq_self, c20, ↓rd_strs]
  refine call_rule h53 ?_
  rintro lo1 hi1 r g1 g2 rfl
  cases h1 : textOk xs
  · simp -dsimp only [↓SD, SP, ↓reduceIte, Nat.reduceEqDiff, ini, frz, rdAo, rd3o, rd2o, rdpo, rd1o, fnv, intv, VOp.dst, getRo, solEo, solo, solo1, allsz, List.all_cons, List.all_nil, Bool.and_true, beq_self_eq_true, List.length_cons, List.length_nil, Nat.zero_add, srcv, Nat.le_refl, List.take_succ_cons, List.take_zero, and_self, if_true, Nat.reduceAdd, Nat.reduceLT, eq_self]
    simp [dm, h1]
  · simp -dsimp only [↓SD, SP, ↓reduceIte, Nat.reduceEqDiff, ini, frz, rdAo, rd3o, rd2o, rdpo, rd1o, fnv, intv, VOp.dst, getRo, solEo, solo, solo1, allsz, List.all_cons, List.all_nil, Bool.and_true, beq_self_eq_true, List.length_cons, List.length_nil, Nat.zero_add, srcv, Nat.le_refl, List.take_succ_cons, List.take_zero, and_self, if_true, Nat.reduceAdd, Nat.reduceLT, eq_self, ↓rd_strs]
    refine call_rule h53' ?_
    rintro lo2 hi2 r g3 g4 rfl
    cases h2 : textOk ys
    · simp -dsimp only [↓SD, SP, ↓reduceIte, Nat.reduceEqDiff, ini, frz, rdAo, rd3o, rd2o, rdpo, rd1o, fnv, intv, VOp.dst, getRo, solEo, solo, solo1, allsz, List.all_cons, List.all_nil, Bool.and_true, beq_self_eq_true, List.length_cons, List.length_nil, Nat.zero_add, srcv, Nat.le_refl, List.take_succ_cons, List.take_zero, and_self, if_true, Nat.reduceAdd, Nat.reduceLT, eq_self]
      simp [dm, h2]
    · have l1 := textOk_len h1
      have l2 := textOk_len h2
      have lle := lc_le xs ys
      simp -dsimp only [↓SD, SP, ↓reduceIte, Nat.reduceEqDiff, ini, frz, rdAo, rd3o, rd2o, rdpo, rd1o, fnv, intv, VOp.dst, getRo, solEo, solo, solo1, allsz, List.all_cons, List.all_nil, Bool.and_true, beq_self_eq_true, List.length_cons, List.length_nil, Nat.zero_add, srcv, Nat.le_refl, List.take_succ_cons, List.take_zero, and_self, if_true, Nat.reduceAdd, Nat.reduceLT, eq_self, l_strs, wrap64 ((xs.length : Int) + ys.length) (by omega), ↓rd_strs]
      refine call_rule (hT (by omega) (by omega)) ?_
      rintro lo3 hi3 r g5 g6 ⟨bt, bs, rfl⟩
      have e1 : idxAv 1 (.lsl (some (bt, 1)) (xs.length + 1) (rowsV bs (lt xs ys) (xs.length + 1) (ys.length + 1))) (.int .i64 0) = some (.lptr (.lsl (some (bs 0, 1)) (ys.length + 1) ((tab (lt xs ys 0) (ys.length + 1)).map iv))) := by
        simp [idxAv, rowsV, AV.sz]
      have e2 : ∀ H, ldv H none (.lptr (.lsl (some (bs 0, 1)) (ys.length + 1) ((tab (lt xs ys 0) (ys.length + 1)).map iv))) = some (.lsl (some (bs 0, 1)) (ys.length + 1) ((tab (lt xs ys 0) (ys.length + 1)).map iv)) := fun H => by
        simp [ldv, fitsz, AV.sz]
      have e3 : idxAv 1 (.lsl (some (bs 0, 1)) (ys.length + 1) ((tab (lt xs ys 0) (ys.length + 1)).map iv)) (.int .i64 0) = some (.lptr (iv (lc xs ys))) := by
        simp [idxAv, tab, AV.sz, lt]
      have e4 : ∀ H, ldv H none (.lptr (iv (lc xs ys))) = some (iv (lc xs ys)) := fun H => by
        simp [ldv, fitsz, AV.sz]
      simp -dsimp only [↓SD, SP, ↓reduceIte, Nat.reduceEqDiff, ini, frz, rdAo, rd3o, rd2o, rdpo, rd1o, fnv, intv, VOp.dst, getRo, solEo, solo, solo1, allsz, List.all_cons, List.all_nil, Bool.and_true, beq_self_eq_true, List.length_cons, List.length_nil, Nat.zero_add, srcv, Nat.le_refl, List.take_succ_cons, List.take_zero, and_self, if_true, Nat.reduceAdd, Nat.reduceLT, eq_self, e1, e2, e3, e4, wrap64 (2 * (lc xs ys : Int)) (by omega), wrap64 ((xs.length : Int) + ys.length - 2 * (lc xs ys : Int)) (by omega)]
      simp [dm, h1, h2]
theorem s_implDiffMany (xs ys : List ByteArray) (hx : okL xs) (hy : okL ys) : OK Go.Proofs.Try.prog 21 [strs xs, strs ys] (fun _ _ r => r = .int .i64 (dm xs ys)) := by
  refine fn_ok k21 rfl ?_
  have h53 := s18 xs hx
  have h53' := s18 ys hy
  have hT := s_lcs xs ys
  generalize OK Go.Proofs.Try.prog = L at *
  intro lo
  simp -dsimp only [↓SD, SP, ↓reduceIte, Nat.reduceEqDiff, ini, frz, rdAo, rd3o, rd2o, rdpo, rd1o, fnv, intv, VOp.dst, getRo, solEo, solo, solo1, allsz, List.all_cons, List.all_nil, Bool.and_true, beq_self_eq_true, List.length_cons, List.length_nil, Nat.zero_add, srcv, Nat.le_refl, List.take_succ_cons, List.take_zero, and_self, if_true, Nat.reduceAdd, Nat.reduceLT, eq_self, c21, ↓rd_strs]
  refine call_rule h53 ?_
  rintro lo1 hi1 r g1 g2 rfl
  cases h1 : textOk xs
  · simp -dsimp only [↓SD, SP, ↓reduceIte, Nat.reduceEqDiff, ini, frz, rdAo, rd3o, rd2o, rdpo, rd1o, fnv, intv, VOp.dst, getRo, solEo, solo, solo1, allsz, List.all_cons, List.all_nil, Bool.and_true, beq_self_eq_true, List.length_cons, List.length_nil, Nat.zero_add, srcv, Nat.le_refl, List.take_succ_cons, List.take_zero, and_self, if_true, Nat.reduceAdd, Nat.reduceLT, eq_self]
    simp [dm, h1]
  · simp -dsimp only [↓SD, SP, ↓reduceIte, Nat.reduceEqDiff, ini, frz, rdAo, rd3o, rd2o, rdpo, rd1o, fnv, intv, VOp.dst, getRo, solEo, solo, solo1, allsz, List.all_cons, List.all_nil, Bool.and_true, beq_self_eq_true, List.length_cons, List.length_nil, Nat.zero_add, srcv, Nat.le_refl, List.take_succ_cons, List.take_zero, and_self, if_true, Nat.reduceAdd, Nat.reduceLT, eq_self, ↓rd_strs]
    refine call_rule h53' ?_
    rintro lo2 hi2 r g3 g4 rfl
    cases h2 : textOk ys
    · simp -dsimp only [↓SD, SP, ↓reduceIte, Nat.reduceEqDiff, ini, frz, rdAo, rd3o, rd2o, rdpo, rd1o, fnv, intv, VOp.dst, getRo, solEo, solo, solo1, allsz, List.all_cons, List.all_nil, Bool.and_true, beq_self_eq_true, List.length_cons, List.length_nil, Nat.zero_add, srcv, Nat.le_refl, List.take_succ_cons, List.take_zero, and_self, if_true, Nat.reduceAdd, Nat.reduceLT, eq_self]
      simp [dm, h2]
    · have l1 := textOk_len h1
      have l2 := textOk_len h2
      have lle := lc_le xs ys
      simp -dsimp only [↓SD, SP, ↓reduceIte, Nat.reduceEqDiff, ini, frz, rdAo, rd3o, rd2o, rdpo, rd1o, fnv, intv, VOp.dst, getRo, solEo, solo, solo1, allsz, List.all_cons, List.all_nil, Bool.and_true, beq_self_eq_true, List.length_cons, List.length_nil, Nat.zero_add, srcv, Nat.le_refl, List.take_succ_cons, List.take_zero, and_self, if_true, Nat.reduceAdd, Nat.reduceLT, eq_self, l_strs, wrap64 ((xs.length : Int) + ys.length) (by omega), ↓rd_strs]
      refine call_rule (hT (by omega) (by omega)) ?_
      rintro lo3 hi3 r g5 g6 rfl
      simp -dsimp only [↓SD, SP, ↓reduceIte, Nat.reduceEqDiff, ini, frz, rdAo, rd3o, rd2o, rdpo, rd1o, fnv, intv, VOp.dst, getRo, solEo, solo, solo1, allsz, List.all_cons, List.all_nil, Bool.and_true, beq_self_eq_true, List.length_cons, List.length_nil, Nat.zero_add, srcv, Nat.le_refl, List.take_succ_cons, List.take_zero, and_self, if_true, Nat.reduceAdd, Nat.reduceLT, eq_self, wrap64 (2 * (lc xs ys : Int)) (by omega), wrap64 ((xs.length : Int) + ys.length - 2 * (lc xs ys : Int)) (by omega)]
      simp [dm, h1, h2]
theorem s15' (xs : List ByteArray) (k : Nat) (hk : k ≤ 1000000) (h : xs.length ≤ 9223372036854775807 ∧ ∀ s ∈ xs, s.size ≤ 9223372036854775807) :
    OK Go.Proofs.Try.prog 15 [strs xs, .int .i64 k] (fun _ _ r => ∃ i : Int, r = .int .i64 i ∧ (0 ≤ i → okL xs ∧ ∃ k' : Nat, i = k' ∧ k' ≤ k)) :=
  (s15 xs k hk h).weak fun lo hi r ⟨i, hr, hi⟩ => ⟨i, hr, fun h0 => ⟨okL_of hk h0 (hi h0), i.toNat, by omega, by have := hi h0; omega⟩⟩
theorem s19' (xs : List ByteArray) (h : okL xs) : OK Go.Proofs.Try.prog 19 [.lsl none xs.length ((roomy xs).map .str), .lsl none xs.length ((roomy xs).map .str)] (fun _ _ r => r = .bool true) :=
  (s19 xs.length (roomy xs) (roomy xs) h.1 (roomy_len xs) (roomy_len xs)).weak fun lo hi r hr => by simpa using hr

theorem law_DiffMany (xs ys : List ByteArray) (h : xs.length ≤ 9223372036854775807 ∧ ∀ s ∈ xs, s.size ≤ 9223372036854775807) (h' : ys.length ≤ 9223372036854775807 ∧ ∀ s ∈ ys, s.size ≤ 9223372036854775807) :
    OK Go.Proofs.Try.prog 4 [strs xs, strs ys] (fun _ _ r => r = .bool true) := by
  refine fn_ok k4 rfl ?_
  have hz := fun k hk => s15' xs k hk h
  have hz' := fun k hk => s15' ys k hk h'
  have ht := fun h b => s_toStringS xs b h
  have ht' := fun h b => s_toStringS ys b h
  have hi := s19' xs
  have hi' := s19' ys
  have hs := s_specDiffMany xs ys
  have hp := s_implDiffMany xs ys
  generalize OK Go.Proofs.Try.prog = L at *
  intro lo
  simp -dsimp only [↓SD, SP, ↓reduceIte, Nat.reduceEqDiff, ini, frz, rdAo, rd3o, rd2o, rdpo, rd1o, fnv, intv, VOp.dst, getRo, solEo, solo, solo1, allsz, List.all_cons, List.all_nil, Bool.and_true, beq_self_eq_true, List.length_cons, List.length_nil, Nat.zero_add, srcv, Nat.le_refl, List.take_succ_cons, List.take_zero, and_self, if_true, Nat.reduceAdd, Nat.reduceLT, eq_self, c4, ↓rd_strs]
  refine call_rule (hz 1000000 (Nat.le_refl _)) ?_
  rintro lo1 hi1 r g1 g2 ⟨i, rfl, hi1⟩
  by_cases hneg : i < 0
  · simp -dsimp only [↓SD, SP, ↓reduceIte, Nat.reduceEqDiff, ini, frz, rdAo, rd3o, rd2o, rdpo, rd1o, fnv, intv, VOp.dst, getRo, solEo, solo, solo1, allsz, List.all_cons, List.all_nil, Bool.and_true, beq_self_eq_true, List.length_cons, List.length_nil, Nat.zero_add, srcv, Nat.le_refl, List.take_succ_cons, List.take_zero, and_self, if_true, Nat.reduceAdd, Nat.reduceLT, eq_self, hneg]
  obtain ⟨hox, k, rfl, hk⟩ := hi1 (by omega)
  simp -dsimp only [↓SD, SP, ↓reduceIte, Nat.reduceEqDiff, ini, frz, rdAo, rd3o, rd2o, rdpo, rd1o, fnv, intv, VOp.dst, getRo, solEo, solo, solo1, allsz, List.all_cons, List.all_nil, Bool.and_true, beq_self_eq_true, List.length_cons, List.length_nil, Nat.zero_add, srcv, Nat.le_refl, List.take_succ_cons, List.take_zero, and_self, if_true, Nat.reduceAdd, Nat.reduceLT, eq_self, hneg, ↓rd_strs]
  refine call_rule (hz' k hk) ?_
  rintro lo2 hi2 r g3 g4 ⟨i2, rfl, hi2⟩
  by_cases hneg2 : i2 < 0
  · simp -dsimp only [↓SD, SP, ↓reduceIte, Nat.reduceEqDiff, ini, frz, rdAo, rd3o, rd2o, rdpo, rd1o, fnv, intv, VOp.dst, getRo, solEo, solo, solo1, allsz, List.all_cons, List.all_nil, Bool.and_true, beq_self_eq_true, List.length_cons, List.length_nil, Nat.zero_add, srcv, Nat.le_refl, List.take_succ_cons, List.take_zero, and_self, if_true, Nat.reduceAdd, Nat.reduceLT, eq_self, hneg2]
  obtain ⟨hoy, k2, rfl, hk2⟩ := hi2 (by omega)
  simp -dsimp only [↓SD, SP, ↓reduceIte, Nat.reduceEqDiff, ini, frz, rdAo, rd3o, rd2o, rdpo, rd1o, fnv, intv, VOp.dst, getRo, solEo, solo, solo1, allsz, List.all_cons, List.all_nil, Bool.and_true, beq_self_eq_true, List.length_cons, List.length_nil, Nat.zero_add, srcv, Nat.le_refl, List.take_succ_cons, List.take_zero, and_self, if_true, Nat.reduceAdd, Nat.reduceLT, eq_self, hneg2, ↓rd_strs]
  refine call_rule (ht hox false) ?_
  rintro lo3 hi3 a1 - - ⟨q1, -⟩
  simp -dsimp only [↓SD, SP, ↓reduceIte, Nat.reduceEqDiff, ini, frz, rdAo, rd3o, rd2o, rdpo, rd1o, fnv, intv, VOp.dst, getRo, solEo, solo, solo1, allsz, List.all_cons, List.all_nil, Bool.and_true, beq_self_eq_true, List.length_cons, List.length_nil, Nat.zero_add, srcv, Nat.le_refl, List.take_succ_cons, List.take_zero, and_self, if_true, Nat.reduceAdd, Nat.reduceLT, eq_self, ↓q1.res, ↓rd_strs]
  refine call_rule (ht' hoy false) ?_
  rintro lo4 hi4 a2 - - ⟨q2, -⟩
  simp -dsimp only [↓SD, SP, ↓reduceIte, Nat.reduceEqDiff, ini, frz, rdAo, rd3o, rd2o, rdpo, rd1o, fnv, intv, VOp.dst, getRo, solEo, solo, solo1, allsz, List.all_cons, List.all_nil, Bool.and_true, beq_self_eq_true, List.length_cons, List.length_nil, Nat.zero_add, srcv, Nat.le_refl, List.take_succ_cons, List.take_zero, and_self, if_true, Nat.reduceAdd, Nat.reduceLT, eq_self, ↓q2.res, ↓q1.rd, ↓q2.rd]
  refine call_rule (hs hox hoy) ?_
  rintro lo5 hi5 r - - rfl
  simp -dsimp only [↓SD, SP, ↓reduceIte, Nat.reduceEqDiff, ini, frz, rdAo, rd3o, rd2o, rdpo, rd1o, fnv, intv, VOp.dst, getRo, solEo, solo, solo1, allsz, List.all_cons, List.all_nil, Bool.and_true, beq_self_eq_true, List.length_cons, List.length_nil, Nat.zero_add, srcv, Nat.le_refl, List.take_succ_cons, List.take_zero, and_self, if_true, Nat.reduceAdd, Nat.reduceLT, eq_self, ↓rd_strs]
  refine call_rule (ht hox false) ?_
  rintro lo6 hi6 x0 - - ⟨q3, q3'⟩
  obtain ⟨b0, -, -, e0⟩ := q3' rfl
  simp -dsimp only [↓SD, SP, ↓reduceIte, Nat.reduceEqDiff, ini, frz, rdAo, rd3o, rd2o, rdpo, rd1o, fnv, intv, VOp.dst, getRo, solEo, solo, solo1, allsz, List.all_cons, List.all_nil, Bool.and_true, beq_self_eq_true, List.length_cons, List.length_nil, Nat.zero_add, srcv, Nat.le_refl, List.take_succ_cons, List.take_zero, and_self, if_true, Nat.reduceAdd, Nat.reduceLT, eq_self, ↓q3.res, ↓rd_strs]
  refine call_rule (ht' hoy false) ?_
  rintro lo7 hi7 x1 - - ⟨q4, q4'⟩
  obtain ⟨b1, -, -, e1⟩ := q4' rfl
  simp -dsimp only [↓SD, SP, ↓reduceIte, Nat.reduceEqDiff, ini, frz, rdAo, rd3o, rd2o, rdpo, rd1o, fnv, intv, VOp.dst, getRo, solEo, solo, solo1, allsz, List.all_cons, List.all_nil, Bool.and_true, beq_self_eq_true, List.length_cons, List.length_nil, Nat.zero_add, srcv, Nat.le_refl, List.take_succ_cons, List.take_zero, and_self, if_true, Nat.reduceAdd, Nat.reduceLT, eq_self, ↓q4.res, ↓q3.rd, ↓q4.rd]
  refine call_rule (hp hox hoy) ?_
  rintro lo8 hi8 r - - rfl
  simp -dsimp only [↓SD, SP, ↓reduceIte, Nat.reduceEqDiff, ini, frz, rdAo, rd3o, rd2o, rdpo, rd1o, fnv, intv, VOp.dst, getRo, solEo, solo, solo1, allsz, List.all_cons, List.all_nil, Bool.and_true, beq_self_eq_true, List.length_cons, List.length_nil, Nat.zero_add, srcv, Nat.le_refl, List.take_succ_cons, List.take_zero, and_self, if_true, Nat.reduceAdd, Nat.reduceLT, eq_self, ↓rd_strs]
  refine call_rule (ht hox false) ?_
  rintro lo9 hi9 x2 - - ⟨q5, q5'⟩
  obtain ⟨b2, -, -, e2⟩ := q5' rfl
  simp -dsimp only [↓SD, SP, ↓reduceIte, Nat.reduceEqDiff, ini, frz, rdAo, rd3o, rd2o, rdpo, rd1o, fnv, intv, VOp.dst, getRo, solEo, solo, solo1, allsz, List.all_cons, List.all_nil, Bool.and_true, beq_self_eq_true, List.length_cons, List.length_nil, Nat.zero_add, srcv, Nat.le_refl, List.take_succ_cons, List.take_zero, and_self, if_true, Nat.reduceAdd, Nat.reduceLT, eq_self, ↓q5.res, e0, e2, ↓rd_roomyT]
  refine call_rule (hi hox) ?_
  rintro lo10 hi10 r - - rfl
  simp -dsimp only [↓SD, SP, ↓reduceIte, Nat.reduceEqDiff, ini, frz, rdAo, rd3o, rd2o, rdpo, rd1o, fnv, intv, VOp.dst, getRo, solEo, solo, solo1, allsz, List.all_cons, List.all_nil, Bool.and_true, beq_self_eq_true, List.length_cons, List.length_nil, Nat.zero_add, srcv, Nat.le_refl, List.take_succ_cons, List.take_zero, and_self, if_true, Nat.reduceAdd, Nat.reduceLT, eq_self, ↓rd_strs]
  refine call_rule (ht' hoy false) ?_
  rintro lo11 hi11 x3 - - ⟨q6, q6'⟩
  obtain ⟨b3, -, -, e3⟩ := q6' rfl
  simp -dsimp only [↓SD, SP, ↓reduceIte, Nat.reduceEqDiff, ini, frz, rdAo, rd3o, rd2o, rdpo, rd1o, fnv, intv, VOp.dst, getRo, solEo, solo, solo1, allsz, List.all_cons, List.all_nil, Bool.and_true, beq_self_eq_true, List.length_cons, List.length_nil, Nat.zero_add, srcv, Nat.le_refl, List.take_succ_cons, List.take_zero, and_self, if_true, Nat.reduceAdd, Nat.reduceLT, eq_self, ↓q6.res, e1, e3, ↓rd_roomyT]
  refine call_rule (hi' hoy) ?_
  rintro lo12 hi12 r - - rfl
  simp -dsimp only [↓SD, SP, ↓reduceIte, Nat.reduceEqDiff, ini, frz, rdAo, rd3o, rd2o, rdpo, rd1o, fnv, intv, VOp.dst, getRo, solEo, solo, solo1, allsz, List.all_cons, List.all_nil, Bool.and_true, beq_self_eq_true, List.length_cons, List.length_nil, Nat.zero_add, srcv, Nat.le_refl, List.take_succ_cons, List.take_zero, and_self, if_true, Nat.reduceAdd, Nat.reduceLT, eq_self, ↓rd_strs]
  refine call_rule (ht hox true) ?_
  rintro lo13 hi13 x4 - - ⟨q7, -⟩
  simp -dsimp only [↓SD, SP, ↓reduceIte, Nat.reduceEqDiff, ini, frz, rdAo, rd3o, rd2o, rdpo, rd1o, fnv, intv, VOp.dst, getRo, solEo, solo, solo1, allsz, List.all_cons, List.all_nil, Bool.and_true, beq_self_eq_true, List.length_cons, List.length_nil, Nat.zero_add, srcv, Nat.le_refl, List.take_succ_cons, List.take_zero, and_self, if_true, Nat.reduceAdd, Nat.reduceLT, eq_self, ↓q7.res, ↓rd_strs]
  refine call_rule (ht' hoy true) ?_
  rintro lo14 hi14 x5 - - ⟨q8, -⟩
  simp -dsimp only [↓SD, SP, ↓reduceIte, Nat.reduceEqDiff, ini, frz, rdAo, rd3o, rd2o, rdpo, rd1o, fnv, intv, VOp.dst, getRo, solEo, solo, solo1, allsz, List.all_cons, List.all_nil, Bool.and_true, beq_self_eq_true, List.length_cons, List.length_nil, Nat.zero_add, srcv, Nat.le_refl, List.take_succ_cons, List.take_zero, and_self, if_true, Nat.reduceAdd, Nat.reduceLT, eq_self, ↓q8.res, ↓q7.rd, ↓q8.rd]
  refine call_rule (hp hox hoy) ?_
  rintro lo15 hi15 r - - rfl
  simp -dsimp only [↓SD, SP, ↓reduceIte, Nat.reduceEqDiff, ini, frz, rdAo, rd3o, rd2o, rdpo, rd1o, fnv, intv, VOp.dst, getRo, solEo, solo, solo1, allsz, List.all_cons, List.all_nil, Bool.and_true, beq_self_eq_true, List.length_cons, List.length_nil, Nat.zero_add, srcv, Nat.le_refl, List.take_succ_cons, List.take_zero, and_self, if_true, Nat.reduceAdd, Nat.reduceLT, eq_self]
end Go.AVM
