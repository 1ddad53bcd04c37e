/- Paths: what the functions give. -/
import Derived.Test.YtnanbjnadkoekaaDoorFE3
import Derived.Test.YtnanbjnadkoekaaDoorFC2
import Derived.Test.YtnanbjnadkoekaaDoorTT0
set_option linter.unusedSimpArgs false
set_option linter.unusedVariables false
namespace Go.AVM
open Go.RowKit
theorem two_args {w : World} {S : Nat → Prop} {s : ByteArray} {k : IntKind} {c : Int} {vs : Array Value} (h : RVs w S [.str s, .int k c] vs) : vs = #[.string s, .int k c] := by
  obtain ⟨hsz, hv⟩ := h
  obtain ⟨u0, h0, r0⟩ := hv 0 _ rfl
  obtain ⟨u1, h1, r1⟩ := hv 1 _ rfl
  have e0 := r0.str_inv
  have e1 := r1.int_inv
  subst e0 e1
  obtain ⟨l⟩ := vs
  match l, hsz with
  | [a, b], _ =>
    simp at h0 h1
    subst h0 h1
    rfl
theorem s_count (s : ByteArray) (c : Int) : OK Go.Proofs.Tryd.prog 109 [.str s, .int .u8 c] (fun _ _ r => r = .int .i64 (Lib.countByte s.data.toList c.toNat.toUInt8)) := by
  refine .inr fun w S vs hS hv => ?_
  obtain rfl := two_args hv
  refine ⟨_, .int .i64 (Lib.countByte s.data.toList c.toNat.toUInt8), ?_, rfl, rfl, .int _ _⟩
  rw [run_callFunc_extern Go.Proofs.Tryd.func109 (by kernel_rfl) (by kernel_rfl) (by kernel_rfl) (e := Extern.BytealgCount.count) (by kernel_rfl), Lib.run_countString]
  rfl
theorem s_indexB (s : ByteArray) (c : Int) : OK Go.Proofs.Tryd.prog 120 [.str s, .int .u8 c] (fun _ _ r => r = .int .i64 (Lib.indexByte s.data.toList c.toNat.toUInt8)) := by
  refine .inr fun w S vs hS hv => ?_
  obtain rfl := two_args hv
  refine ⟨_, .int .i64 (Lib.indexByte s.data.toList c.toNat.toUInt8), ?_, rfl, rfl, .int _ _⟩
  rw [run_callFunc_extern Go.Proofs.Tryd.func120 (by kernel_rfl) (by kernel_rfl) (by kernel_rfl) (e := Extern.BytealgIndexByte.indexByte) (by kernel_rfl), Lib.run_indexByteString]
  rfl
theorem s_slIndexByte (s : ByteArray) : OK Go.Proofs.Tryd.prog 115 [.str s, .int .u8 47] (fun _ _ r => r = .int .i64 (Lib.indexByte (pl s) 47)) := by
  refine fn_ok k115 rfl ?_
  have h1 := s_indexB s 47
  generalize OK Go.Proofs.Tryd.prog = L at *
  intro lo
  simp -dsimp only [↓SD, SP, ↓reduceIte, Nat.reduceEqDiff, ini, frz, rdAo, rd3o, rd2o, rdpo, rd1o, fnv, intv, VOp.dst, getRo, solEo, solo, solo1, allsz, List.all_cons, List.all_nil, Bool.and_true, beq_self_eq_true, List.length_cons, List.length_nil, Nat.zero_add, srcv, Nat.le_refl, List.take_succ_cons, List.take_zero, and_self, if_true, Nat.reduceAdd, Nat.reduceLT, eq_self, c115]
  refine call_rule h1 ?_
  rintro lo1 hi1 r - - rfl
  simp -dsimp only [↓SD, SP, ↓reduceIte, Nat.reduceEqDiff, ini, frz, rdAo, rd3o, rd2o, rdpo, rd1o, fnv, intv, VOp.dst, getRo, solEo, solo, solo1, allsz, List.all_cons, List.all_nil, Bool.and_true, beq_self_eq_true, List.length_cons, List.length_nil, Nat.zero_add, srcv, Nat.le_refl, List.take_succ_cons, List.take_zero, and_self, if_true, Nat.reduceAdd, Nat.reduceLT, eq_self]
  rfl
theorem st_size : (⟨#[47]⟩ : ByteArray).size = 1 := by decide
theorem st_at : idxv (.str ⟨#[47]⟩) (.int .i64 0) = some (.int .u8 47) := by
  exact x_str ⟨#[47]⟩ 0 (by decide)
theorem s_slIndex (s : ByteArray) : OK Go.Proofs.Tryd.prog 110 [.str s, .str ⟨#[47]⟩] (fun _ _ r => r = .int .i64 (Lib.indexByte (pl s) 47)) := by
  refine fn_ok k110 rfl ?_
  have h1 := s_slIndexByte s
  generalize OK Go.Proofs.Tryd.prog = L at *
  intro lo
  have h11 : ((1 : Nat) : Int) = 1 := rfl
  have h10 : ¬ (1 : Int) = 0 := by decide
  by_cases hq : (⟨#[47]⟩ : ByteArray) = s
  · subst hq
    simp -dsimp only [↓SD, SP, ↓reduceIte, Nat.reduceEqDiff, ini, frz, rdAo, rd3o, rd2o, rdpo, rd1o, fnv, intv, VOp.dst, getRo, solEo, solo, solo1, allsz, List.all_cons, List.all_nil, Bool.and_true, beq_self_eq_true, List.length_cons, List.length_nil, Nat.zero_add, srcv, Nat.le_refl, List.take_succ_cons, List.take_zero, and_self, if_true, Nat.reduceAdd, Nat.reduceLT, eq_self, c110, st_size, h10, h11]
    simp [pl, Lib.indexByte]
  · simp -dsimp only [↓SD, SP, ↓reduceIte, Nat.reduceEqDiff, ini, frz, rdAo, rd3o, rd2o, rdpo, rd1o, fnv, intv, VOp.dst, getRo, solEo, solo, solo1, allsz, List.all_cons, List.all_nil, Bool.and_true, beq_self_eq_true, List.length_cons, List.length_nil, Nat.zero_add, srcv, Nat.le_refl, List.take_succ_cons, List.take_zero, and_self, if_true, Nat.reduceAdd, Nat.reduceLT, eq_self, c110, st_size, hq, st_at, h10, h11]
    refine call_rule h1 ?_
    rintro lo1 hi1 r - - rfl
    simp -dsimp only [↓SD, SP, ↓reduceIte, Nat.reduceEqDiff, ini, frz, rdAo, rd3o, rd2o, rdpo, rd1o, fnv, intv, VOp.dst, getRo, solEo, solo, solo1, allsz, List.all_cons, List.all_nil, Bool.and_true, beq_self_eq_true, List.length_cons, List.length_nil, Nat.zero_add, srcv, Nat.le_refl, List.take_succ_cons, List.take_zero, and_self, if_true, Nat.reduceAdd, Nat.reduceLT, eq_self]
theorem s_index (s : ByteArray) : OK Go.Proofs.Tryd.prog 102 [.str s, .str ⟨#[47]⟩] (fun _ _ r => r = .int .i64 (Lib.indexByte (pl s) 47)) := by
  refine fn_ok k102 rfl ?_
  have h1 := s_slIndex s
  generalize OK Go.Proofs.Tryd.prog = L at *
  intro lo
  simp -dsimp only [↓SD, SP, ↓reduceIte, Nat.reduceEqDiff, ini, frz, rdAo, rd3o, rd2o, rdpo, rd1o, fnv, intv, VOp.dst, getRo, solEo, solo, solo1, allsz, List.all_cons, List.all_nil, Bool.and_true, beq_self_eq_true, List.length_cons, List.length_nil, Nat.zero_add, srcv, Nat.le_refl, List.take_succ_cons, List.take_zero, and_self, if_true, Nat.reduceAdd, Nat.reduceLT, eq_self, c102]
  refine call_rule h1 ?_
  rintro lo1 hi1 r - - rfl
  simp -dsimp only [↓SD, SP, ↓reduceIte, Nat.reduceEqDiff, ini, frz, rdAo, rd3o, rd2o, rdpo, rd1o, fnv, intv, VOp.dst, getRo, solEo, solo, solo1, allsz, List.all_cons, List.all_nil, Bool.and_true, beq_self_eq_true, List.length_cons, List.length_nil, Nat.zero_add, srcv, Nat.le_refl, List.take_succ_cons, List.take_zero, and_self, if_true, Nat.reduceAdd, Nat.reduceLT, eq_self]
theorem s_Count (s : ByteArray) : OK Go.Proofs.Tryd.prog 101 [.str s, .str ⟨#[47]⟩] (fun _ _ r => r = .int .i64 ((pl s).count 47 : Nat)) := by
  refine fn_ok k101 rfl ?_
  have h1 := s_count s 47
  generalize OK Go.Proofs.Tryd.prog = L at *
  intro lo
  simp -dsimp only [↓SD, SP, ↓reduceIte, Nat.reduceEqDiff, ini, frz, rdAo, rd3o, rd2o, rdpo, rd1o, fnv, intv, VOp.dst, getRo, solEo, solo, solo1, allsz, List.all_cons, List.all_nil, Bool.and_true, beq_self_eq_true, List.length_cons, List.length_nil, Nat.zero_add, srcv, Nat.le_refl, List.take_succ_cons, List.take_zero, and_self, if_true, Nat.reduceAdd, Nat.reduceLT, eq_self, c101, st_size, st_at, Int.natCast_one, show ¬ (1 : Int) = 0 by decide]
  refine call_rule h1 ?_
  rintro lo1 hi1 r - - rfl
  simp -dsimp only [↓SD, SP, ↓reduceIte, Nat.reduceEqDiff, ini, frz, rdAo, rd3o, rd2o, rdpo, rd1o, fnv, intv, VOp.dst, getRo, solEo, solo, solo1, allsz, List.all_cons, List.all_nil, Bool.and_true, beq_self_eq_true, List.length_cons, List.length_nil, Nat.zero_add, srcv, Nat.le_refl, List.take_succ_cons, List.take_zero, and_self, if_true, Nat.reduceAdd, Nat.reduceLT, eq_self]
  rfl
theorem s_isName (c : UInt8) : OK Go.Proofs.Tryd.prog 82 [.int .u8 c.toNat] (fun _ _ r => r = .bool (nmB c)) := by
  refine fn_ok k82 rfl ?_
  generalize OK Go.Proofs.Tryd.prog = L at *
  intro lo
  by_cases h1 : (97 : Int) ≤ c.toNat <;> by_cases h2 : (c.toNat : Int) ≤ 122 <;> by_cases h3 : (48 : Int) ≤ c.toNat <;> by_cases h4 : (c.toNat : Int) ≤ 57 <;>
    (simp -dsimp only [↓SD, SP, ↓reduceIte, Nat.reduceEqDiff, ini, frz, rdAo, rd3o, rd2o, rdpo, rd1o, fnv, intv, VOp.dst, getRo, solEo, solo, solo1, allsz, List.all_cons, List.all_nil, Bool.and_true, beq_self_eq_true, List.length_cons, List.length_nil, Nat.zero_add, srcv, Nat.le_refl, List.take_succ_cons, List.take_zero, and_self, if_true, Nat.reduceAdd, Nat.reduceLT, eq_self, c82, h1, h2, h3, h4]; refine congrArg AV.bool ?_; simp only [nmB]; first | omega | (simp; omega))
theorem nmOk_no {s : ByteArray} {i : Nat} (h : i < s.size) (hc : nmB s[i] = false) : nmOk s = false := by
  have : ¬ (s.data.toList.all nmB = true) := fun h' => by
    have := List.all_eq_true.1 h' s[i] (by rw [Array.mem_toList_iff]; exact Array.getElem_mem h)
    rw [hc] at this
    cases this
  simp [nmOk, this]
theorem nmOk_yes {s : ByteArray} (hc : ∀ j, (h : j < s.size) → nmB s[j] = true) : nmOk s = decide (1 ≤ s.size ∧ s.size ≤ 6) := by
  have : s.data.toList.all nmB = true := List.all_eq_true.2 fun x hx => by
    obtain ⟨j, hj, rfl⟩ := Array.getElem_of_mem (Array.mem_toList_iff.1 hx)
    exact hc j hj
  simp [nmOk, this]
theorem s_nameOk (s : ByteArray) (hs : s.size ≤ 1000000) : OK Go.Proofs.Tryd.prog 46 [.str s] (fun _ _ r => r = .bool (nmOk s)) := by
  refine fn_ok k46 rfl ?_
  have h1 := s_isName
  have h2 := s_within s.size 1 6
  generalize OK Go.Proofs.Tryd.prog = L at *
  intro lo
  simp -dsimp only [↓SD, SP, ↓reduceIte, Nat.reduceEqDiff, ini, frz, rdAo, rd3o, rd2o, rdpo, rd1o, fnv, intv, VOp.dst, getRo, solEo, solo, solo1, allsz, List.all_cons, List.all_nil, Bool.and_true, beq_self_eq_true, List.length_cons, List.length_nil, Nat.zero_add, srcv, Nat.le_refl, List.take_succ_cons, List.take_zero, and_self, if_true, Nat.reduceAdd, Nat.reduceLT, eq_self, c46]
  refine loop_rule (fun m E H n => ∃ i : Nat, m + i = s.size ∧ E 0 = .str s ∧ E 5 = .int .i64 s.size ∧ E 6 = .int .i64 i ∧ ∀ j, (h : j < s.size) → j < i → nmB s[j] = true)
    (fun e E H n => (e = .exit 0 ∧ E 0 = .str s ∧ nmOk s = decide (1 ≤ s.size ∧ s.size ≤ 6)) ∨ (e = .ret ∧ E 2 = .bool (nmOk s))) s.size ⟨0, rfl, rfl, rfl, rfl, fun j h h' => by omega⟩ ?_ ?_
  · rintro e E H n (⟨rfl, h0, h3⟩ | ⟨rfl, h2⟩)
    · simp -dsimp only [↓SD, SP, ↓reduceIte, Nat.reduceEqDiff, ini, frz, rdAo, rd3o, rd2o, rdpo, rd1o, fnv, intv, VOp.dst, getRo, solEo, solo, solo1, allsz, List.all_cons, List.all_nil, Bool.and_true, beq_self_eq_true, List.length_cons, List.length_nil, Nat.zero_add, srcv, Nat.le_refl, List.take_succ_cons, List.take_zero, and_self, if_true, Nat.reduceAdd, Nat.reduceLT, eq_self, h0]
      refine call_rule h2 ?_
      rintro lo1 hi1 r - - rfl
      simp -dsimp only [↓SD, SP, ↓reduceIte, Nat.reduceEqDiff, ini, frz, rdAo, rd3o, rd2o, rdpo, rd1o, fnv, intv, VOp.dst, getRo, solEo, solo, solo1, allsz, List.all_cons, List.all_nil, Bool.and_true, beq_self_eq_true, List.length_cons, List.length_nil, Nat.zero_add, srcv, Nat.le_refl, List.take_succ_cons, List.take_zero, and_self, if_true, Nat.reduceAdd, Nat.reduceLT, eq_self, h3]
      refine congrArg AV.bool (decide_eq_decide.2 ?_)
      omega
    · simp -dsimp only [↓SD, SP, ↓reduceIte, Nat.reduceEqDiff, ini, frz, rdAo, rd3o, rd2o, rdpo, rd1o, fnv, intv, VOp.dst, getRo, solEo, solo, solo1, allsz, List.all_cons, List.all_nil, Bool.and_true, beq_self_eq_true, List.length_cons, List.length_nil, Nat.zero_add, srcv, Nat.le_refl, List.take_succ_cons, List.take_zero, and_self, if_true, Nat.reduceAdd, Nat.reduceLT, eq_self, h2]
  · rintro m E H n Q K ⟨i, hm, h0, h5, h6, hp⟩ hQ hK
    by_cases hi : i < s.size
    · simp -dsimp only [↓SD, SP, ↓reduceIte, Nat.reduceEqDiff, ini, frz, rdAo, rd3o, rd2o, rdpo, rd1o, fnv, intv, VOp.dst, getRo, solEo, solo, solo1, allsz, List.all_cons, List.all_nil, Bool.and_true, beq_self_eq_true, List.length_cons, List.length_nil, Nat.zero_add, srcv, Nat.le_refl, List.take_succ_cons, List.take_zero, and_self, if_true, Nat.reduceAdd, Nat.reduceLT, eq_self, h0, h5, h6, x_str _ _ hi, Int.ofNat_lt, hi]
      refine call_rule (h1 s[i]) ?_
      rintro lo1 hi1 r - - rfl
      cases hb : nmB s[i]
      · simp -dsimp only [↓SD, SP, ↓reduceIte, Nat.reduceEqDiff, ini, frz, rdAo, rd3o, rd2o, rdpo, rd1o, fnv, intv, VOp.dst, getRo, solEo, solo, solo1, allsz, List.all_cons, List.all_nil, Bool.and_true, beq_self_eq_true, List.length_cons, List.length_nil, Nat.zero_add, srcv, Nat.le_refl, List.take_succ_cons, List.take_zero, and_self, if_true, Nat.reduceAdd, Nat.reduceLT, eq_self, hb]
        refine hQ _ _ _ _ (.inr ⟨rfl, ?_⟩)
        simp -dsimp only [↓SD, SP, ↓reduceIte, Nat.reduceEqDiff, ini, frz, rdAo, rd3o, rd2o, rdpo, rd1o, fnv, intv, VOp.dst, getRo, solEo, solo, solo1, allsz, List.all_cons, List.all_nil, Bool.and_true, beq_self_eq_true, List.length_cons, List.length_nil, Nat.zero_add, srcv, Nat.le_refl, List.take_succ_cons, List.take_zero, and_self, if_true, Nat.reduceAdd, Nat.reduceLT, eq_self, nmOk_no hi hb]
      · simp -dsimp only [↓SD, SP, ↓reduceIte, Nat.reduceEqDiff, ini, frz, rdAo, rd3o, rd2o, rdpo, rd1o, fnv, intv, VOp.dst, getRo, solEo, solo, solo1, allsz, List.all_cons, List.all_nil, Bool.and_true, beq_self_eq_true, List.length_cons, List.length_nil, Nat.zero_add, srcv, Nat.le_refl, List.take_succ_cons, List.take_zero, and_self, if_true, Nat.reduceAdd, Nat.reduceLT, eq_self, hb, h5, h6, wrap64 ((i : Int) + 1) (by omega)]
        refine hK (m - 1) _ _ _ (by omega) ⟨i + 1, by omega, by first | (simp -dsimp only [↓SD, SP, ↓reduceIte, Nat.reduceEqDiff, ini, frz, rdAo, rd3o, rd2o, rdpo, rd1o, fnv, intv, VOp.dst, getRo, solEo, solo, solo1, allsz, List.all_cons, List.all_nil, Bool.and_true, beq_self_eq_true, List.length_cons, List.length_nil, Nat.zero_add, srcv, Nat.le_refl, List.take_succ_cons, List.take_zero, and_self, if_true, Nat.reduceAdd, Nat.reduceLT, eq_self, h0]; done) | (simp -dsimp only [↓SD, SP, ↓reduceIte, Nat.reduceEqDiff, ini, frz, rdAo, rd3o, rd2o, rdpo, rd1o, fnv, intv, VOp.dst, getRo, solEo, solo, solo1, allsz, List.all_cons, List.all_nil, Bool.and_true, beq_self_eq_true, List.length_cons, List.length_nil, Nat.zero_add, srcv, Nat.le_refl, List.take_succ_cons, List.take_zero, and_self, if_true, Nat.reduceAdd, Nat.reduceLT, eq_self, h0]; rfl) | rfl, by first | (simp -dsimp only [↓SD, SP, ↓reduceIte, Nat.reduceEqDiff, ini, frz, rdAo, rd3o, rd2o, rdpo, rd1o, fnv, intv, VOp.dst, getRo, solEo, solo, solo1, allsz, List.all_cons, List.all_nil, Bool.and_true, beq_self_eq_true, List.length_cons, List.length_nil, Nat.zero_add, srcv, Nat.le_refl, List.take_succ_cons, List.take_zero, and_self, if_true, Nat.reduceAdd, Nat.reduceLT, eq_self, h5]; done) | (simp -dsimp only [↓SD, SP, ↓reduceIte, Nat.reduceEqDiff, ini, frz, rdAo, rd3o, rd2o, rdpo, rd1o, fnv, intv, VOp.dst, getRo, solEo, solo, solo1, allsz, List.all_cons, List.all_nil, Bool.and_true, beq_self_eq_true, List.length_cons, List.length_nil, Nat.zero_add, srcv, Nat.le_refl, List.take_succ_cons, List.take_zero, and_self, if_true, Nat.reduceAdd, Nat.reduceLT, eq_self, h5]; rfl) | rfl, by first | (simp -dsimp only [↓SD, SP, ↓reduceIte, Nat.reduceEqDiff, ini, frz, rdAo, rd3o, rd2o, rdpo, rd1o, fnv, intv, VOp.dst, getRo, solEo, solo, solo1, allsz, List.all_cons, List.all_nil, Bool.and_true, beq_self_eq_true, List.length_cons, List.length_nil, Nat.zero_add, srcv, Nat.le_refl, List.take_succ_cons, List.take_zero, and_self, if_true, Nat.reduceAdd, Nat.reduceLT, eq_self, Int.natCast_add, Int.natCast_one]; done) | (simp -dsimp only [↓SD, SP, ↓reduceIte, Nat.reduceEqDiff, ini, frz, rdAo, rd3o, rd2o, rdpo, rd1o, fnv, intv, VOp.dst, getRo, solEo, solo, solo1, allsz, List.all_cons, List.all_nil, Bool.and_true, beq_self_eq_true, List.length_cons, List.length_nil, Nat.zero_add, srcv, Nat.le_refl, List.take_succ_cons, List.take_zero, and_self, if_true, Nat.reduceAdd, Nat.reduceLT, eq_self, Int.natCast_add, Int.natCast_one]; rfl) | rfl, fun j h hj => ?_⟩
        rcases Nat.lt_or_ge j i with h' | h'
        · exact hp j h h'
        · obtain rfl : j = i := by omega
          exact hb
    · simp -dsimp only [↓SD, SP, ↓reduceIte, Nat.reduceEqDiff, ini, frz, rdAo, rd3o, rd2o, rdpo, rd1o, fnv, intv, VOp.dst, getRo, solEo, solo, solo1, allsz, List.all_cons, List.all_nil, Bool.and_true, beq_self_eq_true, List.length_cons, List.length_nil, Nat.zero_add, srcv, Nat.le_refl, List.take_succ_cons, List.take_zero, and_self, if_true, Nat.reduceAdd, Nat.reduceLT, eq_self, h0, h5, h6, Int.ofNat_lt, hi]
      exact hQ _ _ _ _ (.inl ⟨rfl, h0, nmOk_yes fun j h => hp j h (by omega)⟩)
theorem s_pathOk1 (s : ByteArray) (hs : s.size ≤ 1000000) : OK Go.Proofs.Tryd.prog 45 [.str s] (fun _ _ r => r = .bool (!nmOk s)) := by
  refine fn_ok k45 rfl ?_
  have h1 := s_nameOk s hs
  generalize OK Go.Proofs.Tryd.prog = L at *
  intro lo
  simp -dsimp only [↓SD, SP, ↓reduceIte, Nat.reduceEqDiff, ini, frz, rdAo, rd3o, rd2o, rdpo, rd1o, fnv, intv, VOp.dst, getRo, solEo, solo, solo1, allsz, List.all_cons, List.all_nil, Bool.and_true, beq_self_eq_true, List.length_cons, List.length_nil, Nat.zero_add, srcv, Nat.le_refl, List.take_succ_cons, List.take_zero, and_self, if_true, Nat.reduceAdd, Nat.reduceLT, eq_self, c45]
  refine call_rule h1 ?_
  rintro lo1 hi1 r - - rfl
  simp -dsimp only [↓SD, SP, ↓reduceIte, Nat.reduceEqDiff, ini, frz, rdAo, rd3o, rd2o, rdpo, rd1o, fnv, intv, VOp.dst, getRo, solEo, solo, solo1, allsz, List.all_cons, List.all_nil, Bool.and_true, beq_self_eq_true, List.length_cons, List.length_nil, Nat.zero_add, srcv, Nat.le_refl, List.take_succ_cons, List.take_zero, and_self, if_true, Nat.reduceAdd, Nat.reduceLT, eq_self]
theorem ex_s (s : ByteArray) (i j : Nat) (hj : j ≤ s.size) : s.extract i j = mkB (((pl s).drop i).take (j - i)) := by
  have := ex_mkB (pl s) i j (by rw [pl_len]; exact hj)
  rwa [mkB_data] at this
theorem splitL_sz {l : List UInt8} : ∀ x ∈ splitL l, x.length ≤ l.length := by
  induction l with
  | nil => intro x hx; simp [splitL] at hx; subst hx; simp
  | cons b l ih =>
    intro x hx
    unfold splitL at hx
    split at hx
    · rcases List.mem_cons.1 hx with rfl | hx
      · simp
      · have := ih x hx; simp; omega
    · split at hx
      · rename_i y ys he
        rw [he] at ih
        rcases List.mem_cons.1 hx with rfl | hx
        · have := ih y List.mem_cons_self; simpa using this
        · have := ih x (List.mem_cons_of_mem _ hx); simp; omega
      · simp at hx; subst hx; simp
theorem pieces_sz {s : ByteArray} : ∀ x ∈ pieces s, x.size ≤ s.size := by
  intro x hx
  obtain ⟨y, hy, rfl⟩ := List.mem_map.1 hx
  have := splitL_sz y hy
  rw [mkB_size, ← pl_len]
  exact this
theorem pieces_len (s : ByteArray) : (pieces s).length = (pl s).count 47 + 1 := by
  unfold pieces
  rw [List.length_map, splitL_len]
theorem count_le (s : ByteArray) : (pl s).count 47 ≤ s.size := by
  rw [← pl_len]
  exact List.count_le_length
theorem s_genSplit (s : ByteArray) (hs : s.size ≤ 1000000) : OK Go.Proofs.Tryd.prog 80 [.str s, .str ⟨#[47]⟩, .int .i64 0, .int .i64 (-1)] (fun lo hi r => RStr lo hi (pieces s) r) := by
  refine fn_ok k80 rfl ?_
  have h1 := s_Count s
  have h2 := s_index
  generalize OK Go.Proofs.Tryd.prog = L at *
  intro lo
  have hc := count_le s
  have hne : ¬ (⟨#[47]⟩ : ByteArray) = ⟨#[]⟩ := by decide
  have hN : (pieces s).length = (pl s).count 47 + 1 := pieces_len s
  generalize hcn : (pl s).count 47 = c at *
  simp -dsimp only [↓SD, SP, ↓reduceIte, Nat.reduceEqDiff, ini, frz, rdAo, rd3o, rd2o, rdpo, rd1o, fnv, intv, VOp.dst, getRo, solEo, solo, solo1, allsz, List.all_cons, List.all_nil, Bool.and_true, beq_self_eq_true, List.length_cons, List.length_nil, Nat.zero_add, srcv, Nat.le_refl, List.take_succ_cons, List.take_zero, and_self, if_true, Nat.reduceAdd, Nat.reduceLT, eq_self, c80, hne, show ¬ (-1 : Int) = 0 by decide, show (-1 : Int) < 0 by decide]
  refine call_rule h1 ?_
  rintro lo1 hi1 r p1 p2 rfl
  have hmx : mxv false (.int .i64 ((c : Int) + 1)) (.int .i64 ((s.size : Int) + 1)) = some (.int .i64 ((c : Int) + 1)) := by
    simp [mxv]
    omega
  simp -dsimp only [↓SD, SP, ↓reduceIte, Nat.reduceEqDiff, ini, frz, rdAo, rd3o, rd2o, rdpo, rd1o, fnv, intv, VOp.dst, getRo, solEo, solo, solo1, allsz, List.all_cons, List.all_nil, Bool.and_true, beq_self_eq_true, List.length_cons, List.length_nil, Nat.zero_add, srcv, Nat.le_refl, List.take_succ_cons, List.take_zero, and_self, if_true, Nat.reduceAdd, Nat.reduceLT, eq_self, wrap64 ((c : Int) + 1) (by omega), wrap64 ((s.size : Int) + 1) (by omega), hmx]
  refine mk_at (by omega) ?_
  intro g hg
  simp -dsimp only [↓SD, SP, ↓reduceIte, Nat.reduceEqDiff, ini, frz, rdAo, rd3o, rd2o, rdpo, rd1o, fnv, intv, VOp.dst, getRo, solEo, solo, solo1, allsz, List.all_cons, List.all_nil, Bool.and_true, beq_self_eq_true, List.length_cons, List.length_nil, Nat.zero_add, srcv, Nat.le_refl, List.take_succ_cons, List.take_zero, and_self, if_true, Nat.reduceAdd, Nat.reduceLT, eq_self, wrap64 ((c : Int) + 1 - 1) (by omega)]
  refine loop_rule (fun m E H n => ∃ (i : Nat) (l : List UInt8), m + i = c ∧ E 0 = .str (mkB l) ∧ E 1 = .str ⟨#[47]⟩ ∧ E 2 = .int .i64 0 ∧ E 3 = .int .i64 c ∧ E 9 = .own 31 g 1 (c + 1) ∧ E 10 = .int .i64 i ∧ g < n ∧ l.length ≤ 1000000 ∧ i + (splitL l).length = c + 1 ∧
        (pieces s).drop i = (splitL l).map mkB ∧ H 31 = some ⟨g, 1, ((pieces s).take i ++ List.replicate (m + 1) (⟨#[]⟩ : ByteArray)).map .str, false, true, true⟩)
    (fun e E H n => e = .exit 0 ∧ ∃ (l : List UInt8), E 0 = .str (mkB l) ∧ E 9 = .own 31 g 1 (c + 1) ∧ E 10 = .int .i64 c ∧ g < n ∧ (pieces s).drop c = [mkB l] ∧ H 31 = some ⟨g, 1, ((pieces s).take c ++ List.replicate 1 (⟨#[]⟩ : ByteArray)).map .str, false, true, true⟩)
    c ⟨0, pl s, rfl, ?_, rfl, rfl, ?_, ?_, rfl, by omega, by rw [pl_len]; exact hs, ?_, rfl, ?_⟩ ?_ ?_
  · simp -dsimp only [↓SD, SP, ↓reduceIte, Nat.reduceEqDiff, ini, frz, rdAo, rd3o, rd2o, rdpo, rd1o, fnv, intv, VOp.dst, getRo, solEo, solo, solo1, allsz, List.all_cons, List.all_nil, Bool.and_true, beq_self_eq_true, List.length_cons, List.length_nil, Nat.zero_add, srcv, Nat.le_refl, List.take_succ_cons, List.take_zero, and_self, if_true, Nat.reduceAdd, Nat.reduceLT, eq_self, mkB_data]
  · simp -dsimp only [↓SD, SP, ↓reduceIte, Nat.reduceEqDiff, ini, frz, rdAo, rd3o, rd2o, rdpo, rd1o, fnv, intv, VOp.dst, getRo, solEo, solo, solo1, allsz, List.all_cons, List.all_nil, Bool.and_true, beq_self_eq_true, List.length_cons, List.length_nil, Nat.zero_add, srcv, Nat.le_refl, List.take_succ_cons, List.take_zero, and_self, if_true, Nat.reduceAdd, Nat.reduceLT, eq_self, show (c : Int) + 1 - 1 = c by omega]
  · simp -dsimp only [↓SD, SP, ↓reduceIte, Nat.reduceEqDiff, ini, frz, rdAo, rd3o, rd2o, rdpo, rd1o, fnv, intv, VOp.dst, getRo, solEo, solo, solo1, allsz, List.all_cons, List.all_nil, Bool.and_true, beq_self_eq_true, List.length_cons, List.length_nil, Nat.zero_add, srcv, Nat.le_refl, List.take_succ_cons, List.take_zero, and_self, if_true, Nat.reduceAdd, Nat.reduceLT, eq_self, show ((c : Int) + 1).toNat = c + 1 by omega]
  · rw [splitL_len, hcn]; omega
  · simp -dsimp only [↓SD, SP, ↓reduceIte, Nat.reduceEqDiff, ini, frz, rdAo, rd3o, rd2o, rdpo, rd1o, fnv, intv, VOp.dst, getRo, solEo, solo, solo1, allsz, List.all_cons, List.all_nil, Bool.and_true, beq_self_eq_true, List.length_cons, List.length_nil, Nat.zero_add, srcv, Nat.le_refl, List.take_succ_cons, List.take_zero, and_self, if_true, Nat.reduceAdd, Nat.reduceLT, eq_self, show ((c : Int) + 1).toNat = c + 1 by omega, List.take_zero, List.map_replicate, List.nil_append]
  · rintro e E H n ⟨rfl, l, h0, h9, h10, hgn, hd, hH⟩
    have hcl : c < (pieces s).length := by omega
    have hlast : (pieces s).take c ++ [mkB l] = pieces s := by rw [← hd, List.take_append_drop]
    simp -dsimp only [↓SD, SP, ↓reduceIte, Nat.reduceEqDiff, ini, frz, rdAo, rd3o, rd2o, rdpo, rd1o, fnv, intv, VOp.dst, getRo, solEo, solo, solo1, allsz, List.all_cons, List.all_nil, Bool.and_true, beq_self_eq_true, List.length_cons, List.length_nil, Nat.zero_add, srcv, Nat.le_refl, List.take_succ_cons, List.take_zero, and_self, if_true, Nat.reduceAdd, Nat.reduceLT, eq_self, h0, h9, h10, x_own _ _ _ _ _ (show c < c + 1 by omega), st_str (i := c) (x := mkB l) hH (by simp; omega), wrap64 ((c : Int) + 1) (by omega)]
    have hset : ((pieces s).take c ++ List.replicate 1 (⟨#[]⟩ : ByteArray)).set c (mkB l) = pieces s := by
      rw [List.set_append_right _ _ (by simp; omega), List.length_take, Nat.min_eq_left (by omega), Nat.sub_self]
      exact hlast
    have hsl : ∀ H : Hp, H 31 = some ⟨g, 1, (pieces s).map .str, false, true, true⟩ → slcv H 1 (.own 31 g 1 (c + 1)) none (some (.int .i64 ((c : Int) + 1))) = some (.own 31 g 1 (c + 1)) := fun H hH => by
      simp [slcv, hH, hN, show ((c : Int) + 1).toNat = c + 1 by omega]
      omega
    rw [hset]
    simp -dsimp only [↓SD, SP, ↓reduceIte, Nat.reduceEqDiff, ini, frz, rdAo, rd3o, rd2o, rdpo, rd1o, fnv, intv, VOp.dst, getRo, solEo, solo, solo1, allsz, List.all_cons, List.all_nil, Bool.and_true, beq_self_eq_true, List.length_cons, List.length_nil, Nat.zero_add, srcv, Nat.le_refl, List.take_succ_cons, List.take_zero, and_self, if_true, Nat.reduceAdd, Nat.reduceLT, eq_self, h9, h10, hsl, hN, List.length_map]
    exact .inr ⟨g, by omega, by omega, by rw [hN]⟩
  · rintro m E H n Q K ⟨i, l, hm, h0, h1', h2', h3, h9, h10, hgn, hll, hlen, hd, hH⟩ hQ hK
    cases m with
    | zero =>
      obtain rfl : i = c := by omega
      simp -dsimp only [↓SD, SP, ↓reduceIte, Nat.reduceEqDiff, ini, frz, rdAo, rd3o, rd2o, rdpo, rd1o, fnv, intv, VOp.dst, getRo, solEo, solo, solo1, allsz, List.all_cons, List.all_nil, Bool.and_true, beq_self_eq_true, List.length_cons, List.length_nil, Nat.zero_add, srcv, Nat.le_refl, List.take_succ_cons, List.take_zero, and_self, if_true, Nat.reduceAdd, Nat.reduceLT, eq_self, h10, h3, Int.ofNat_lt, Nat.lt_irrefl]
      obtain ⟨x, hx⟩ := List.length_eq_one_iff.1 (show (splitL l).length = 1 by omega)
      have hxl : x = l := by
        cases hi : Lib.indexByte l 47 with
        | ofNat m =>
          obtain ⟨_, h2⟩ := splitL_some (m := m) hi
          rw [h2] at hx
          exact absurd (List.cons.inj hx).2 (splitL_ne _)
        | negSucc k =>
          have := Lib.indexByte_ge l 47
          rw [splitL_none (by omega)] at hx
          exact (List.cons.inj hx).1.symm
      subst hxl
      refine hQ _ _ _ _ ⟨rfl, x, h0, h9, h10, hgn, by rw [hd, hx]; rfl, hH⟩
    | succ m =>
      have hic : i < c := by omega
      simp -dsimp only [↓SD, SP, ↓reduceIte, Nat.reduceEqDiff, ini, frz, rdAo, rd3o, rd2o, rdpo, rd1o, fnv, intv, VOp.dst, getRo, solEo, solo, solo1, allsz, List.all_cons, List.all_nil, Bool.and_true, beq_self_eq_true, List.length_cons, List.length_nil, Nat.zero_add, srcv, Nat.le_refl, List.take_succ_cons, List.take_zero, and_self, if_true, Nat.reduceAdd, Nat.reduceLT, eq_self, h0, h1', h3, h10, Int.ofNat_lt, hic]
      refine call_rule (h2 (mkB l)) ?_
      rintro lo2 hi2 r p3 p4 rfl
      rw [show pl (mkB l) = l from mkB_list l]
      obtain ⟨k, hk⟩ : ∃ k : Nat, Lib.indexByte l 47 = k := by
        cases hi : Lib.indexByte l 47 with
        | ofNat m => exact ⟨m, rfl⟩
        | negSucc k =>
          have := Lib.indexByte_ge l 47
          rw [splitL_none (by omega)] at hlen
          simp at hlen
          omega
      obtain ⟨hkl, hsp⟩ := splitL_some hk
      have hsz : (mkB l).size = l.length := mkB_size l
      have hpi : (pieces s)[i]? = some (mkB (l.take k)) := by
        have := congrArg List.head? hd
        rw [List.head?_drop, hsp] at this
        simpa using this
      have hil : i < (pieces s).length := by omega
      have hpe : (pieces s)[i] = mkB (l.take k) := by
        rw [List.getElem?_eq_getElem hil] at hpi
        exact Option.some.inj hpi
      have x1 : ∀ H : Hp, slcv H 0 (.str (mkB l)) none (some (.int .i64 k)) = some (.str (mkB (l.take k))) := fun H => by
        have e := ex_mkB l 0 k (by omega)
        simp only [List.drop_zero, Nat.sub_zero] at e
        simp [slcv, e, hsz]
        omega
      have x2 : ∀ H : Hp, slcv H 0 (.str (mkB l)) (some (.int .i64 ((k : Int) + 1))) none = some (.str (mkB (l.drop (k + 1)))) := fun H => by
        have e := ex_mkB l (k + 1) l.length (by omega)
        rw [List.take_of_length_le (by simp)] at e
        simp [slcv, hsz, show ((k : Int) + 1).toNat = k + 1 by omega, e]
        omega
      simp -dsimp only [↓SD, SP, ↓reduceIte, Nat.reduceEqDiff, ini, frz, rdAo, rd3o, rd2o, rdpo, rd1o, fnv, intv, VOp.dst, getRo, solEo, solo, solo1, allsz, List.all_cons, List.all_nil, Bool.and_true, beq_self_eq_true, List.length_cons, List.length_nil, Nat.zero_add, srcv, Nat.le_refl, List.take_succ_cons, List.take_zero, and_self, if_true, Nat.reduceAdd, Nat.reduceLT, eq_self, hk, show ¬ (k : Int) < 0 by omega, h0, h1', h2', h9, h10, wrap64 (k : Int) (by omega), Int.add_zero, x1, x2, st_size, Int.natCast_one, x_own _ _ _ _ _ (show i < c + 1 by omega), st_str (i := i) (x := mkB (l.take k)) hH (by simp; omega), wrap64 ((k : Int) + 1) (by omega), wrap64 ((i : Int) + 1) (by omega)]
      refine hK m _ _ _ rfl ⟨i + 1, l.drop (k + 1), by omega, by first | (simp -dsimp only [↓SD, SP, ↓reduceIte, Nat.reduceEqDiff, ini, frz, rdAo, rd3o, rd2o, rdpo, rd1o, fnv, intv, VOp.dst, getRo, solEo, solo, solo1, allsz, List.all_cons, List.all_nil, Bool.and_true, beq_self_eq_true, List.length_cons, List.length_nil, Nat.zero_add, srcv, Nat.le_refl, List.take_succ_cons, List.take_zero, and_self, if_true, Nat.reduceAdd, Nat.reduceLT, eq_self]; done) | (simp -dsimp only [↓SD, SP, ↓reduceIte, Nat.reduceEqDiff, ini, frz, rdAo, rd3o, rd2o, rdpo, rd1o, fnv, intv, VOp.dst, getRo, solEo, solo, solo1, allsz, List.all_cons, List.all_nil, Bool.and_true, beq_self_eq_true, List.length_cons, List.length_nil, Nat.zero_add, srcv, Nat.le_refl, List.take_succ_cons, List.take_zero, and_self, if_true, Nat.reduceAdd, Nat.reduceLT, eq_self]; rfl) | rfl, by first | (simp -dsimp only [↓SD, SP, ↓reduceIte, Nat.reduceEqDiff, ini, frz, rdAo, rd3o, rd2o, rdpo, rd1o, fnv, intv, VOp.dst, getRo, solEo, solo, solo1, allsz, List.all_cons, List.all_nil, Bool.and_true, beq_self_eq_true, List.length_cons, List.length_nil, Nat.zero_add, srcv, Nat.le_refl, List.take_succ_cons, List.take_zero, and_self, if_true, Nat.reduceAdd, Nat.reduceLT, eq_self, h1']; done) | (simp -dsimp only [↓SD, SP, ↓reduceIte, Nat.reduceEqDiff, ini, frz, rdAo, rd3o, rd2o, rdpo, rd1o, fnv, intv, VOp.dst, getRo, solEo, solo, solo1, allsz, List.all_cons, List.all_nil, Bool.and_true, beq_self_eq_true, List.length_cons, List.length_nil, Nat.zero_add, srcv, Nat.le_refl, List.take_succ_cons, List.take_zero, and_self, if_true, Nat.reduceAdd, Nat.reduceLT, eq_self, h1']; rfl) | rfl, by first | (simp -dsimp only [↓SD, SP, ↓reduceIte, Nat.reduceEqDiff, ini, frz, rdAo, rd3o, rd2o, rdpo, rd1o, fnv, intv, VOp.dst, getRo, solEo, solo, solo1, allsz, List.all_cons, List.all_nil, Bool.and_true, beq_self_eq_true, List.length_cons, List.length_nil, Nat.zero_add, srcv, Nat.le_refl, List.take_succ_cons, List.take_zero, and_self, if_true, Nat.reduceAdd, Nat.reduceLT, eq_self, h2']; done) | (simp -dsimp only [↓SD, SP, ↓reduceIte, Nat.reduceEqDiff, ini, frz, rdAo, rd3o, rd2o, rdpo, rd1o, fnv, intv, VOp.dst, getRo, solEo, solo, solo1, allsz, List.all_cons, List.all_nil, Bool.and_true, beq_self_eq_true, List.length_cons, List.length_nil, Nat.zero_add, srcv, Nat.le_refl, List.take_succ_cons, List.take_zero, and_self, if_true, Nat.reduceAdd, Nat.reduceLT, eq_self, h2']; rfl) | rfl, by first | (simp -dsimp only [↓SD, SP, ↓reduceIte, Nat.reduceEqDiff, ini, frz, rdAo, rd3o, rd2o, rdpo, rd1o, fnv, intv, VOp.dst, getRo, solEo, solo, solo1, allsz, List.all_cons, List.all_nil, Bool.and_true, beq_self_eq_true, List.length_cons, List.length_nil, Nat.zero_add, srcv, Nat.le_refl, List.take_succ_cons, List.take_zero, and_self, if_true, Nat.reduceAdd, Nat.reduceLT, eq_self, h3]; done) | (simp -dsimp only [↓SD, SP, ↓reduceIte, Nat.reduceEqDiff, ini, frz, rdAo, rd3o, rd2o, rdpo, rd1o, fnv, intv, VOp.dst, getRo, solEo, solo, solo1, allsz, List.all_cons, List.all_nil, Bool.and_true, beq_self_eq_true, List.length_cons, List.length_nil, Nat.zero_add, srcv, Nat.le_refl, List.take_succ_cons, List.take_zero, and_self, if_true, Nat.reduceAdd, Nat.reduceLT, eq_self, h3]; rfl) | rfl, by first | (simp -dsimp only [↓SD, SP, ↓reduceIte, Nat.reduceEqDiff, ini, frz, rdAo, rd3o, rd2o, rdpo, rd1o, fnv, intv, VOp.dst, getRo, solEo, solo, solo1, allsz, List.all_cons, List.all_nil, Bool.and_true, beq_self_eq_true, List.length_cons, List.length_nil, Nat.zero_add, srcv, Nat.le_refl, List.take_succ_cons, List.take_zero, and_self, if_true, Nat.reduceAdd, Nat.reduceLT, eq_self, h9]; done) | (simp -dsimp only [↓SD, SP, ↓reduceIte, Nat.reduceEqDiff, ini, frz, rdAo, rd3o, rd2o, rdpo, rd1o, fnv, intv, VOp.dst, getRo, solEo, solo, solo1, allsz, List.all_cons, List.all_nil, Bool.and_true, beq_self_eq_true, List.length_cons, List.length_nil, Nat.zero_add, srcv, Nat.le_refl, List.take_succ_cons, List.take_zero, and_self, if_true, Nat.reduceAdd, Nat.reduceLT, eq_self, h9]; rfl) | rfl, by first | (simp -dsimp only [↓SD, SP, ↓reduceIte, Nat.reduceEqDiff, ini, frz, rdAo, rd3o, rd2o, rdpo, rd1o, fnv, intv, VOp.dst, getRo, solEo, solo, solo1, allsz, List.all_cons, List.all_nil, Bool.and_true, beq_self_eq_true, List.length_cons, List.length_nil, Nat.zero_add, srcv, Nat.le_refl, List.take_succ_cons, List.take_zero, and_self, if_true, Nat.reduceAdd, Nat.reduceLT, eq_self, Int.natCast_add, Int.natCast_one]; done) | (simp -dsimp only [↓SD, SP, ↓reduceIte, Nat.reduceEqDiff, ini, frz, rdAo, rd3o, rd2o, rdpo, rd1o, fnv, intv, VOp.dst, getRo, solEo, solo, solo1, allsz, List.all_cons, List.all_nil, Bool.and_true, beq_self_eq_true, List.length_cons, List.length_nil, Nat.zero_add, srcv, Nat.le_refl, List.take_succ_cons, List.take_zero, and_self, if_true, Nat.reduceAdd, Nat.reduceLT, eq_self, Int.natCast_add, Int.natCast_one]; rfl) | rfl, by omega, by simp; omega, ?_, ?_, ?_⟩
      · rw [hsp] at hlen
        simp at hlen
        omega
      · rw [← List.drop_drop, hd, hsp]
        rfl
      · simp -dsimp only [↓SD, SP, ↓reduceIte, Nat.reduceEqDiff, ini, frz, rdAo, rd3o, rd2o, rdpo, rd1o, fnv, intv, VOp.dst, getRo, solEo, solo, solo1, allsz, List.all_cons, List.all_nil, Bool.and_true, beq_self_eq_true, List.length_cons, List.length_nil, Nat.zero_add, srcv, Nat.le_refl, List.take_succ_cons, List.take_zero, and_self, if_true, Nat.reduceAdd, Nat.reduceLT, eq_self]
        rw [← hpe, show m + 1 + 1 = (m + 1) + 1 by rfl, set_take hil]
theorem s_split (s : ByteArray) (hs : s.size ≤ 1000000) : OK Go.Proofs.Tryd.prog 43 [.str s, .str ⟨#[47]⟩] (fun lo hi r => RStr lo hi (pieces s) r) := by
  refine fn_ok k43 rfl ?_
  have h1 := s_genSplit s hs
  generalize OK Go.Proofs.Tryd.prog = L at *
  intro lo
  simp -dsimp only [↓SD, SP, ↓reduceIte, Nat.reduceEqDiff, ini, frz, rdAo, rd3o, rd2o, rdpo, rd1o, fnv, intv, VOp.dst, getRo, solEo, solo, solo1, allsz, List.all_cons, List.all_nil, Bool.and_true, beq_self_eq_true, List.length_cons, List.length_nil, Nat.zero_add, srcv, Nat.le_refl, List.take_succ_cons, List.take_zero, and_self, if_true, Nat.reduceAdd, Nat.reduceLT, eq_self, c43]
  refine call_rule h1 ?_
  rintro lo1 hi1 r p1 p2 hr
  have e1 := fun H => sol_wk (fl := false) hr.wk (strs_pl _) H
  simp -dsimp only [↓SD, SP, ↓reduceIte, Nat.reduceEqDiff, ini, frz, rdAo, rd3o, rd2o, rdpo, rd1o, fnv, intv, VOp.dst, getRo, solEo, solo, solo1, allsz, List.all_cons, List.all_nil, Bool.and_true, beq_self_eq_true, List.length_cons, List.length_nil, Nat.zero_add, srcv, Nat.le_refl, List.take_succ_cons, List.take_zero, and_self, if_true, Nat.reduceAdd, Nat.reduceLT, eq_self, ↓r_any, ↓e1]
  exact hr.mono (by omega) (Nat.le_refl _)
theorem s_implPathOk (s : ByteArray) (hs : s.size ≤ 1000000) : OK Go.Proofs.Tryd.prog 13 [.str s] (fun _ _ r => r = .bool (pathOk s)) := by
  refine fn_ok k13 rfl ?_
  have h1 := s_split s hs
  have hl := pieces_len s
  have hc := count_le s
  have h2 := fun (h3 : (pieces s).length ≤ 3) => s55 (fun s => !nmOk s) 45 (pieces s) ⟨by omega, fun x hx => by have := pieces_sz x hx; omega⟩ (fun x hx => s_pathOk1 x (by have := pieces_sz x hx; omega))
  intro lo
  simp -dsimp only [↓SD, SP, ↓reduceIte, Nat.reduceEqDiff, ini, frz, rdAo, rd3o, rd2o, rdpo, rd1o, fnv, intv, VOp.dst, getRo, solEo, solo, solo1, allsz, List.all_cons, List.all_nil, Bool.and_true, beq_self_eq_true, List.length_cons, List.length_nil, Nat.zero_add, srcv, Nat.le_refl, List.take_succ_cons, List.take_zero, and_self, if_true, Nat.reduceAdd, Nat.reduceLT, eq_self, c13]
  refine call_rule h1 ?_
  rintro lo1 hi1 r p1 p2 hr
  obtain ⟨q1, e1, u1⟩ := rd_wk (fl := false) hr.wk (strs_pl _) (fun _ => none)
  have hlen : lenv false r = some (pieces s).length := by
    rcases hr with ⟨h0, rfl⟩ | ⟨g, _, _, rfl⟩
    · rw [h0]; rfl
    · rfl
  by_cases hd : ((pieces s).length : Int) ≤ 3
  · simp -dsimp only [↓SD, SP, ↓reduceIte, Nat.reduceEqDiff, ini, frz, rdAo, rd3o, rd2o, rdpo, rd1o, fnv, intv, VOp.dst, getRo, solEo, solo, solo1, allsz, List.all_cons, List.all_nil, Bool.and_true, beq_self_eq_true, List.length_cons, List.length_nil, Nat.zero_add, srcv, Nat.le_refl, List.take_succ_cons, List.take_zero, and_self, if_true, Nat.reduceAdd, Nat.reduceLT, eq_self, ↓r_any, hlen, hd, ↓e1, rds2o]
    refine call_rule (OK.wk (h2 (by omega)) (.cons u1 (.cons (.refl _) .nil))) ?_
    rintro lo2 hi2 r p3 p4 rfl
    simp -dsimp only [↓SD, SP, ↓reduceIte, Nat.reduceEqDiff, ini, frz, rdAo, rd3o, rd2o, rdpo, rd1o, fnv, intv, VOp.dst, getRo, solEo, solo, solo1, allsz, List.all_cons, List.all_nil, Bool.and_true, beq_self_eq_true, List.length_cons, List.length_nil, Nat.zero_add, srcv, Nat.le_refl, List.take_succ_cons, List.take_zero, and_self, if_true, Nat.reduceAdd, Nat.reduceLT, eq_self]
    simp [pathOk, show (pieces s).length ≤ 3 by omega, List.any_eq_not_all_not]
  · simp -dsimp only [↓SD, SP, ↓reduceIte, Nat.reduceEqDiff, ini, frz, rdAo, rd3o, rd2o, rdpo, rd1o, fnv, intv, VOp.dst, getRo, solEo, solo, solo1, allsz, List.all_cons, List.all_nil, Bool.and_true, beq_self_eq_true, List.length_cons, List.length_nil, Nat.zero_add, srcv, Nat.le_refl, List.take_succ_cons, List.take_zero, and_self, if_true, Nat.reduceAdd, Nat.reduceLT, eq_self, ↓r_any, hlen, hd]
    simp [pathOk, show ¬ (pieces s).length ≤ 3 by omega]
end Go.AVM
