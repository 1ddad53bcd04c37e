/- The law's helpers for lists of structs: one text for all kinds, and what it gives. -/
import Derived.Test.YtnanbjnadkoekaaDoorVW
import Derived.Test.YtnanbjnadkoekaaDoorVH
namespace Go.AVM
set_option linter.unusedSimpArgs false
set_option linter.unusedVariables false
def gSz (s fT : Nat) : VFn := ⟨2, 27, [.tmp 4], (.seq (.reg [⟨none, .mv 4 (.c (.int .i64 0))⟩] [0]) (.seq (.reg [⟨none, .mv 6 (.t 1)⟩,
  ⟨none, .mv 7 (.t 0)⟩,
  ⟨none, .len 8 false (.t 7)⟩,
  ⟨none, .bin 9 .sub (.t 6) (.t 8)⟩,
  ⟨none, .mv 1 (.t 9)⟩] [0, 1, 2, 3, 4]) (.seq (.seq (.reg [⟨none, .mv 10 (.t 1)⟩,
  ⟨none, .bin 11 .lss (.t 10) (.c (.int .i64 0))⟩] [0, 1]) (.cond (.t 11) (.seq (.reg [⟨none, .mv 4 (.c (.int .i64 (-1)))⟩] [0]) .ret) .skip)) (.seq (.seq (.reg [⟨none, .mv 5 (.c (.int .i64 0))⟩] [0]) (.block 0 (.loop (.seq (.seq (.reg [⟨none, .mv 12 (.t 5)⟩,
  ⟨none, .mv 13 (.t 0)⟩,
  ⟨none, .len 14 false (.t 13)⟩,
  ⟨none, .bin 15 .lss (.t 12) (.t 14)⟩] [0, 1, 2, 3]) (.cond (.t 15) .skip (.exit 0))) (.seq (.block 1 (.seq (.reg [⟨none, .mv 18 (.t 0)⟩,
  ⟨none, .mv 19 (.t 5)⟩,
  ⟨none, .idxA 20 s (.t 18) (.t 19)⟩,
  ⟨none, .ld 21 (.t 20) (some s)⟩,
  ⟨none, .mv 22 (.t 1)⟩,
  ⟨none, .call 23 (.c (.fn fT [])) [.t 21, .t 22] false false⟩,
  ⟨none, .mv 1 (.t 23)⟩] [0, 1, 2, 3, 4, 5, 6]) (.seq (.reg [⟨none, .mv 24 (.t 1)⟩,
  ⟨none, .bin 25 .lss (.t 24) (.c (.int .i64 0))⟩] [0, 1]) (.cond (.t 25) (.seq (.reg [⟨none, .mv 4 (.c (.int .i64 (-1)))⟩] [0]) .ret) .skip)))) (.reg [⟨none, .mv 16 (.t 5)⟩,
  ⟨none, .bin 17 .add (.t 16) (.c (.int .i64 1))⟩,
  ⟨none, .mv 5 (.t 17)⟩] [0, 1, 2])))))) (.seq (.reg [⟨none, .mv 26 (.t 1)⟩,
  ⟨none, .mv 4 (.t 26)⟩] [0, 1]) .ret)))))⟩
def gTo (s bytes fT fF fR : Nat) (z : AV) : VFn := ⟨2, 52, [.tmp 4], (.seq (.reg [⟨none, .mv 4 (.c .emp)⟩] [0]) (.seq (.seq (.reg [⟨none, .mv 8 (.t 1)⟩,
  ⟨none, .mv 9 (.t 8)⟩,
  ⟨some (9, true), .mv 10 (.t 0)⟩,
  ⟨some (9, true), .len 11 false (.t 10)⟩,
  ⟨some (9, true), .bin 12 .eql (.t 11) (.c (.int .i64 0))⟩,
  ⟨none, .pick 13 (.t 9) (.t 12) (.c (.bool false))⟩] [0, 1, 2, 3, 4, 5]) (.cond (.t 13) (.seq (.reg [⟨none, .mv 4 (.c .emp)⟩] [0]) .ret) .skip)) (.seq (.reg [⟨none, .mv 14 (.t 0)⟩,
  ⟨none, .len 15 false (.t 14)⟩,
  ⟨none, .mv 16 (.t 0)⟩,
  ⟨none, .len 17 false (.t 16)⟩,
  ⟨none, .call 18 (.c (.fn fR [])) [.t 17] false false⟩,
  ⟨none, .bin 19 .add (.t 15) (.t 18)⟩,
  ⟨none, .mks 20 s (.t 19) z bytes⟩,
  ⟨none, .mv 5 (.t 20)⟩] [0, 1, 2, 3, 4, 5, 6, 7]) (.seq (.seq (.reg [⟨none, .mv 6 (.c (.int .i64 0))⟩] [0]) (.block 0 (.loop (.seq (.seq (.reg [⟨none, .mv 21 (.t 6)⟩,
  ⟨none, .mv 22 (.t 0)⟩,
  ⟨none, .len 23 false (.t 22)⟩,
  ⟨none, .bin 24 .lss (.t 21) (.t 23)⟩] [0, 1, 2, 3]) (.cond (.t 24) .skip (.exit 0))) (.seq (.block 1 (.reg [⟨none, .mv 27 (.t 5)⟩,
  ⟨none, .mv 28 (.t 6)⟩,
  ⟨none, .mv 29 (.t 0)⟩,
  ⟨none, .mv 30 (.t 6)⟩,
  ⟨none, .idxA 31 s (.t 29) (.t 30)⟩,
  ⟨none, .ld 32 (.t 31) (some s)⟩,
  ⟨none, .mv 33 (.t 1)⟩,
  ⟨none, .call 34 (.c (.fn fT [])) [.t 32, .t 33] false false⟩,
  ⟨none, .idxA 35 s (.t 27) (.t 28)⟩,
  ⟨none, .st (.t 35) (.t 34) (some s)⟩] [0, 1, 2, 3, 4, 5, 6, 7, 8, 9])) (.reg [⟨none, .mv 25 (.t 6)⟩,
  ⟨none, .bin 26 .add (.t 25) (.c (.int .i64 1))⟩,
  ⟨none, .mv 6 (.t 26)⟩] [0, 1, 2])))))) (.seq (.seq (.reg [⟨none, .mv 36 (.t 0)⟩,
  ⟨none, .len 37 false (.t 36)⟩,
  ⟨none, .mv 7 (.t 37)⟩] [0, 1, 2]) (.block 2 (.loop (.seq (.seq (.reg [⟨none, .mv 38 (.t 7)⟩,
  ⟨none, .mv 39 (.t 5)⟩,
  ⟨none, .len 40 false (.t 39)⟩,
  ⟨none, .bin 41 .lss (.t 38) (.t 40)⟩] [0, 1, 2, 3]) (.cond (.t 41) .skip (.exit 2))) (.seq (.block 3 (.reg [⟨none, .mv 44 (.t 5)⟩,
  ⟨none, .mv 45 (.t 7)⟩,
  ⟨none, .call 46 (.c (.fn fF [])) [] false false⟩,
  ⟨none, .idxA 47 s (.t 44) (.t 45)⟩,
  ⟨none, .st (.t 47) (.t 46) (some s)⟩] [0, 1, 2, 3, 4])) (.reg [⟨none, .mv 42 (.t 7)⟩,
  ⟨none, .bin 43 .add (.t 42) (.c (.int .i64 1))⟩,
  ⟨none, .mv 7 (.t 43)⟩] [0, 1, 2])))))) (.seq (.reg [⟨none, .mv 48 (.t 5)⟩,
  ⟨none, .mv 49 (.t 0)⟩,
  ⟨none, .len 50 false (.t 49)⟩,
  ⟨none, .slc 51 s (.t 48) none (some (.t 50))⟩,
  ⟨none, .mv 4 (.t 51)⟩] [0, 1, 2, 3, 4]) .ret))))))⟩
def gIn (s fI fE fR : Nat) : VFn := ⟨2, 45, [.tmp 4], (.seq (.reg [⟨none, .mv 4 (.c (.bool false))⟩] [0]) (.seq (.reg [⟨none, .mv 7 (.t 1)⟩,
  ⟨none, .len 8 false (.t 7)⟩,
  ⟨none, .mv 9 (.t 1)⟩,
  ⟨none, .len 10 false (.t 9)⟩,
  ⟨none, .call 11 (.c (.fn fR [])) [.t 10] false false⟩,
  ⟨none, .bin 12 .add (.t 8) (.t 11)⟩,
  ⟨none, .mv 5 (.t 12)⟩] [0, 1, 2, 3, 4, 5, 6]) (.seq (.seq (.reg [⟨none, .mv 13 (.t 0)⟩,
  ⟨none, .len 14 false (.t 13)⟩,
  ⟨none, .mv 15 (.t 1)⟩,
  ⟨none, .len 16 false (.t 15)⟩,
  ⟨none, .bin 17 .neq (.t 14) (.t 16)⟩] [0, 1, 2, 3, 4]) (.cond (.t 17) (.seq (.reg [⟨none, .mv 4 (.c (.bool false))⟩] [0]) .ret) .skip)) (.seq (.seq (.reg [⟨none, .mv 6 (.c (.int .i64 0))⟩] [0]) (.block 0 (.loop (.seq (.seq (.reg [⟨none, .mv 18 (.t 6)⟩,
  ⟨none, .mv 19 (.t 1)⟩,
  ⟨none, .len 20 false (.t 19)⟩,
  ⟨none, .bin 21 .lss (.t 18) (.t 20)⟩] [0, 1, 2, 3]) (.cond (.t 21) .skip (.exit 0))) (.seq (.block 1 (.seq (.reg [⟨none, .mv 24 (.t 0)⟩,
  ⟨none, .mv 25 (.t 6)⟩,
  ⟨none, .idxA 26 s (.t 24) (.t 25)⟩,
  ⟨none, .ld 27 (.t 26) (some s)⟩,
  ⟨none, .mv 28 (.t 1)⟩,
  ⟨none, .mv 29 (.t 6)⟩,
  ⟨none, .idxA 30 s (.t 28) (.t 29)⟩,
  ⟨none, .ld 31 (.t 30) (some s)⟩,
  ⟨none, .call 32 (.c (.fn fI [])) [.t 27, .t 31] false true⟩,
  ⟨none, .not 33 (.t 32)⟩] [0, 1, 2, 3, 4, 5, 6, 7, 8, 9]) (.cond (.t 33) (.seq (.reg [⟨none, .mv 4 (.c (.bool false))⟩] [0]) .ret) .skip))) (.reg [⟨none, .mv 22 (.t 6)⟩,
  ⟨none, .bin 23 .add (.t 22) (.c (.int .i64 1))⟩,
  ⟨none, .mv 6 (.t 23)⟩] [0, 1, 2])))))) (.seq (.reg [⟨none, .mv 34 (.t 0)⟩,
  ⟨none, .mv 35 (.t 1)⟩,
  ⟨none, .len 36 false (.t 35)⟩,
  ⟨none, .mv 37 (.t 5)⟩,
  ⟨none, .slc 38 s (.t 34) (some (.t 36)) (some (.t 37))⟩,
  ⟨none, .mv 39 (.t 1)⟩,
  ⟨none, .mv 40 (.t 1)⟩,
  ⟨none, .len 41 false (.t 40)⟩,
  ⟨none, .mv 42 (.t 5)⟩,
  ⟨none, .slc 43 s (.t 39) (some (.t 41)) (some (.t 42))⟩,
  ⟨none, .call 44 (.c (.fn fE [])) [.t 38, .t 43] false false⟩,
  ⟨none, .mv 4 (.t 44)⟩] [0, 1, 2, 3, 4, 5, 6, 7, 8, 9, 10, 11]) .ret)))))⟩
def gEq (s fE : Nat) : VFn := ⟨2, 27, [.tmp 4], (.seq (.reg [⟨none, .mv 4 (.c (.bool false))⟩] [0]) (.seq (.seq (.reg [⟨none, .mv 6 (.t 0)⟩,
  ⟨none, .len 7 false (.t 6)⟩,
  ⟨none, .mv 8 (.t 1)⟩,
  ⟨none, .len 9 false (.t 8)⟩,
  ⟨none, .bin 10 .neq (.t 7) (.t 9)⟩] [0, 1, 2, 3, 4]) (.cond (.t 10) (.seq (.reg [⟨none, .mv 4 (.c (.bool false))⟩] [0]) .ret) .skip)) (.seq (.seq (.reg [⟨none, .mv 5 (.c (.int .i64 0))⟩] [0]) (.block 0 (.loop (.seq (.seq (.reg [⟨none, .mv 11 (.t 5)⟩,
  ⟨none, .mv 12 (.t 0)⟩,
  ⟨none, .len 13 false (.t 12)⟩,
  ⟨none, .bin 14 .lss (.t 11) (.t 13)⟩] [0, 1, 2, 3]) (.cond (.t 14) .skip (.exit 0))) (.seq (.block 1 (.seq (.reg [⟨none, .mv 17 (.t 0)⟩,
  ⟨none, .mv 18 (.t 5)⟩,
  ⟨none, .idxA 19 s (.t 17) (.t 18)⟩,
  ⟨none, .ld 20 (.t 19) (some s)⟩,
  ⟨none, .mv 21 (.t 1)⟩,
  ⟨none, .mv 22 (.t 5)⟩,
  ⟨none, .idxA 23 s (.t 21) (.t 22)⟩,
  ⟨none, .ld 24 (.t 23) (some s)⟩,
  ⟨none, .call 25 (.c (.fn fE [])) [.t 20, .t 24] false false⟩,
  ⟨none, .not 26 (.t 25)⟩] [0, 1, 2, 3, 4, 5, 6, 7, 8, 9]) (.cond (.t 26) (.seq (.reg [⟨none, .mv 4 (.c (.bool false))⟩] [0]) .ret) .skip))) (.reg [⟨none, .mv 15 (.t 5)⟩,
  ⟨none, .bin 16 .add (.t 15) (.c (.int .i64 1))⟩,
  ⟨none, .mv 5 (.t 16)⟩] [0, 1, 2])))))) (.seq (.reg [⟨none, .mv 4 (.c (.bool true))⟩] [0]) .ret))))⟩
def rm (n : Nat) : Nat := if n % 6 = 5 then 0 else if n % 3 = 0 then 1 else n
theorem rm_le (k : Nat) : rm k ≤ k + 1 := by
  unfold rm
  split
  · omega
  · split <;> omega
/-- how elements of a kind are told -/
structure El {α : Type} (s : Nat) (e : α → AV) : Prop where
  agg : ∀ x, ∃ fs, e x = .agg fs ∧ fs.length = s
  rd : ∀ H x, rd3o false H (e x) = some (e x, [])
def lv {α : Type} (e : α → AV) (xs : List α) : AV := .lsl none xs.length (xs.map e)
section
variable {α : Type} {s : Nat} {e : α → AV}
theorem x_lv (he : El s e) (xs : List α) (i : Nat) (h : i < xs.length) : idxAv s (lv e xs) (.int .i64 i) = some (.lptr (e xs[i])) := by
  obtain ⟨fs, h1, h2⟩ := he.agg xs[i]
  simp [idxAv, lv, h, h1, AV.sz, h2]
theorem d_lv (he : El s e) (H : Hp) (x : α) : ldv H (some s) (.lptr (e x)) = some (e x) := by
  obtain ⟨fs, h1, h2⟩ := he.agg x
  simp [ldv, h1, fitsz, h2]
theorem l_lv (xs : List α) : lenv false (lv e xs) = some xs.length := Eq.trans rfl rfl
theorem rd_lv (H : Hp) (xs : List α) : rd3o false H (lv e xs) = some (lv e xs, []) := by
  have h1 : (xs.map e).take xs.length = xs.map e := List.take_of_length_le (by simp)
  simp [lv, rd3o, rd2o, rdpo, rd1o, h1]
end

theorem g_eq {P : Program} {f s fE : Nat} (hk : chkFn P f (gEq s fE) = true) {α : Type} [DecidableEq α] {e : α → AV} (he : El s e) (xs ys : List α) (hx : xs.length ≤ 10000000) (hE : ∀ x ∈ xs, ∀ y ∈ ys, OK P fE [e x, e y] (fun _ _ r => r = .bool (decide (x = y)))) :
    OK P f [lv e xs, lv e ys] (fun _ _ r => r = .bool (decide (xs = ys))) := by
  refine fn_ok hk rfl ?_
  generalize OK P = L at *
  intro lo
  by_cases hl : (xs.length : Int) = ys.length
  · have hl' : xs.length = ys.length := by omega
    simp -dsimp only [↓SD, SP, ↓reduceIte, Nat.reduceEqDiff, ini, frz, rdAo, rd3o, rd2o, rdpo, rd1o, fnv, intv, VOp.dst, getRo, solEo, solo, solo1, allsz, List.all_cons, List.all_nil, Bool.and_true, beq_self_eq_true, List.length_cons, List.length_nil, Nat.zero_add, srcv, Nat.le_refl, List.take_succ_cons, List.take_zero, and_self, if_true, Nat.reduceAdd, Nat.reduceLT, eq_self, gEq, l_lv, hl]
    refine loop_rule (fun m E H n => ∃ i : Nat, m + i = xs.length ∧ E 0 = lv e xs ∧ E 1 = lv e ys ∧ E 5 = .int .i64 i ∧ xs.take i = ys.take i)
      (fun e E H n => (e = .exit 0 ∧ xs = ys) ∨ (e = .ret ∧ E 4 = .bool false ∧ xs ≠ ys)) xs.length ⟨0, rfl, rfl, rfl, rfl, rfl⟩ ?_ ?_
    · rintro e E H n (⟨rfl, rfl⟩ | ⟨rfl, h2, h3⟩)
      · simp -dsimp only [↓SD, SP, ↓reduceIte, Nat.reduceEqDiff, ini, frz, rdAo, rd3o, rd2o, rdpo, rd1o, fnv, intv, VOp.dst, getRo, solEo, solo, solo1, allsz, List.all_cons, List.all_nil, Bool.and_true, beq_self_eq_true, List.length_cons, List.length_nil, Nat.zero_add, srcv, Nat.le_refl, List.take_succ_cons, List.take_zero, and_self, if_true, Nat.reduceAdd, Nat.reduceLT, eq_self]
      · simp -dsimp only [↓SD, SP, ↓reduceIte, Nat.reduceEqDiff, ini, frz, rdAo, rd3o, rd2o, rdpo, rd1o, fnv, intv, VOp.dst, getRo, solEo, solo, solo1, allsz, List.all_cons, List.all_nil, Bool.and_true, beq_self_eq_true, List.length_cons, List.length_nil, Nat.zero_add, srcv, Nat.le_refl, List.take_succ_cons, List.take_zero, and_self, if_true, Nat.reduceAdd, Nat.reduceLT, eq_self, h2]
        simp [h3]
    · rintro m E H n Q K ⟨i, hm, h0, h1, h5, hp⟩ hQ hK
      by_cases hi : i < xs.length
      · have hj : i < ys.length := by omega
        simp -dsimp only [↓SD, SP, ↓reduceIte, Nat.reduceEqDiff, ini, frz, rdAo, rd3o, rd2o, rdpo, rd1o, fnv, intv, VOp.dst, getRo, solEo, solo, solo1, allsz, List.all_cons, List.all_nil, Bool.and_true, beq_self_eq_true, List.length_cons, List.length_nil, Nat.zero_add, srcv, Nat.le_refl, List.take_succ_cons, List.take_zero, and_self, if_true, Nat.reduceAdd, Nat.reduceLT, eq_self, h0, h1, h5, l_lv, Int.ofNat_lt, hi, x_lv he _ _ hi, x_lv he _ _ hj, ↓d_lv he, ↓he.rd, ↓r_any]
        refine call_rule (hE xs[i] (List.getElem_mem hi) ys[i] (List.getElem_mem hj)) ?_
        rintro lo1 hi1 r - - rfl
        by_cases hxy : xs[i] = ys[i]
        · simp -dsimp only [↓SD, SP, ↓reduceIte, Nat.reduceEqDiff, ini, frz, rdAo, rd3o, rd2o, rdpo, rd1o, fnv, intv, VOp.dst, getRo, solEo, solo, solo1, allsz, List.all_cons, List.all_nil, Bool.and_true, beq_self_eq_true, List.length_cons, List.length_nil, Nat.zero_add, srcv, Nat.le_refl, List.take_succ_cons, List.take_zero, and_self, if_true, Nat.reduceAdd, Nat.reduceLT, eq_self, hxy, ↓r_any, h5, wrap64 ((i : Int) + 1) (by omega)]
          refine hK (m - 1) _ _ _ (by omega) ⟨i + 1, by omega, ?_, ?_, ?_, ?_⟩
          · simp -dsimp only [↓SD, SP, ↓reduceIte, Nat.reduceEqDiff, ini, frz, rdAo, rd3o, rd2o, rdpo, rd1o, fnv, intv, VOp.dst, getRo, solEo, solo, solo1, allsz, List.all_cons, List.all_nil, Bool.and_true, beq_self_eq_true, List.length_cons, List.length_nil, Nat.zero_add, srcv, Nat.le_refl, List.take_succ_cons, List.take_zero, and_self, if_true, Nat.reduceAdd, Nat.reduceLT, eq_self, h0]
          · simp -dsimp only [↓SD, SP, ↓reduceIte, Nat.reduceEqDiff, ini, frz, rdAo, rd3o, rd2o, rdpo, rd1o, fnv, intv, VOp.dst, getRo, solEo, solo, solo1, allsz, List.all_cons, List.all_nil, Bool.and_true, beq_self_eq_true, List.length_cons, List.length_nil, Nat.zero_add, srcv, Nat.le_refl, List.take_succ_cons, List.take_zero, and_self, if_true, Nat.reduceAdd, Nat.reduceLT, eq_self, h1]
          · simp -dsimp only [↓SD, SP, ↓reduceIte, Nat.reduceEqDiff, ini, frz, rdAo, rd3o, rd2o, rdpo, rd1o, fnv, intv, VOp.dst, getRo, solEo, solo, solo1, allsz, List.all_cons, List.all_nil, Bool.and_true, beq_self_eq_true, List.length_cons, List.length_nil, Nat.zero_add, srcv, Nat.le_refl, List.take_succ_cons, List.take_zero, and_self, if_true, Nat.reduceAdd, Nat.reduceLT, eq_self, Int.natCast_add, Int.natCast_one]
          · rw [List.take_succ_eq_append_getElem hi, List.take_succ_eq_append_getElem hj, hp, hxy]
        · simp -dsimp only [↓SD, SP, ↓reduceIte, Nat.reduceEqDiff, ini, frz, rdAo, rd3o, rd2o, rdpo, rd1o, fnv, intv, VOp.dst, getRo, solEo, solo, solo1, allsz, List.all_cons, List.all_nil, Bool.and_true, beq_self_eq_true, List.length_cons, List.length_nil, Nat.zero_add, srcv, Nat.le_refl, List.take_succ_cons, List.take_zero, and_self, if_true, Nat.reduceAdd, Nat.reduceLT, eq_self, hxy, ↓r_any]
          refine hQ _ _ _ _ (.inr ⟨rfl, ?_, fun e => hxy (by subst e; rfl)⟩)
          simp -dsimp only [↓SD, SP, ↓reduceIte, Nat.reduceEqDiff, ini, frz, rdAo, rd3o, rd2o, rdpo, rd1o, fnv, intv, VOp.dst, getRo, solEo, solo, solo1, allsz, List.all_cons, List.all_nil, Bool.and_true, beq_self_eq_true, List.length_cons, List.length_nil, Nat.zero_add, srcv, Nat.le_refl, List.take_succ_cons, List.take_zero, and_self, if_true, Nat.reduceAdd, Nat.reduceLT, eq_self]
      · simp -dsimp only [↓SD, SP, ↓reduceIte, Nat.reduceEqDiff, ini, frz, rdAo, rd3o, rd2o, rdpo, rd1o, fnv, intv, VOp.dst, getRo, solEo, solo, solo1, allsz, List.all_cons, List.all_nil, Bool.and_true, beq_self_eq_true, List.length_cons, List.length_nil, Nat.zero_add, srcv, Nat.le_refl, List.take_succ_cons, List.take_zero, and_self, if_true, Nat.reduceAdd, Nat.reduceLT, eq_self, h0, h1, h5, l_lv, Int.ofNat_lt, hi]
        refine hQ _ _ _ _ (.inl ⟨rfl, ?_⟩)
        rwa [List.take_of_length_le (by omega), List.take_of_length_le (by omega)] at hp
  · simp -dsimp only [↓SD, SP, ↓reduceIte, Nat.reduceEqDiff, ini, frz, rdAo, rd3o, rd2o, rdpo, rd1o, fnv, intv, VOp.dst, getRo, solEo, solo, solo1, allsz, List.all_cons, List.all_nil, Bool.and_true, beq_self_eq_true, List.length_cons, List.length_nil, Nat.zero_add, srcv, Nat.le_refl, List.take_succ_cons, List.take_zero, and_self, if_true, Nat.reduceAdd, Nat.reduceLT, eq_self, gEq, l_lv, hl]
    simp [show xs ≠ ys from fun e => hl (by rw [e])]

theorem g_sz {P : Program} {f s fT : Nat} (hk : chkFn P f (gSz s fT) = true) {α : Type} {e : α → AV} (he : El s e) (ok : α → Prop) (xs : List α) (k : Nat) (hkk : k ≤ 1000000) (hx : xs.length ≤ 9223372036854775807)
    (hT : ∀ x ∈ xs, ∀ k : Nat, k ≤ 1000000 → OK P fT [e x, .int .i64 k] (fun _ _ r => ∃ i : Int, r = .int .i64 i ∧ (0 ≤ i → ok x ∧ ∃ k' : Nat, i = k' ∧ k' ≤ k))) :
    OK P f [lv e xs, .int .i64 k] (fun _ _ r => ∃ i : Int, r = .int .i64 i ∧ (0 ≤ i → (xs.length ≤ 1000000 ∧ ∀ x ∈ xs, ok x) ∧ ∃ k' : Nat, i = k' ∧ k' ≤ k)) := by
  refine fn_ok hk rfl ?_
  generalize OK P = L at *
  intro lo
  by_cases hl : (k : Int) - xs.length < 0
  · simp -dsimp only [↓SD, SP, ↓reduceIte, Nat.reduceEqDiff, ini, frz, rdAo, rd3o, rd2o, rdpo, rd1o, fnv, intv, VOp.dst, getRo, solEo, solo, solo1, allsz, List.all_cons, List.all_nil, Bool.and_true, beq_self_eq_true, List.length_cons, List.length_nil, Nat.zero_add, srcv, Nat.le_refl, List.take_succ_cons, List.take_zero, and_self, if_true, Nat.reduceAdd, Nat.reduceLT, eq_self, gSz, l_lv, wrap64 ((k : Int) - xs.length) (by omega), hl]
    exact ⟨_, rfl, by omega⟩
  · simp -dsimp only [↓SD, SP, ↓reduceIte, Nat.reduceEqDiff, ini, frz, rdAo, rd3o, rd2o, rdpo, rd1o, fnv, intv, VOp.dst, getRo, solEo, solo, solo1, allsz, List.all_cons, List.all_nil, Bool.and_true, beq_self_eq_true, List.length_cons, List.length_nil, Nat.zero_add, srcv, Nat.le_refl, List.take_succ_cons, List.take_zero, and_self, if_true, Nat.reduceAdd, Nat.reduceLT, eq_self, gSz, l_lv, wrap64 ((k : Int) - xs.length) (by omega), hl]
    refine loop_rule (fun m E H n => ∃ (i : Nat) (v : Nat), m + i = xs.length ∧ E 0 = lv e xs ∧ E 1 = .int .i64 v ∧ E 5 = .int .i64 i ∧ v ≤ k ∧ ∀ h ∈ xs.take i, ok h)
      (fun e E H n => (e = .exit 0 ∧ ∃ v : Nat, E 1 = .int .i64 v ∧ v ≤ k ∧ ∀ h ∈ xs, ok h) ∨ (e = .ret ∧ E 4 = .int .i64 (-1))) xs.length ⟨0, k - xs.length, rfl, rfl, ?_, rfl, by omega, by simp⟩ ?_ ?_
    · simp -dsimp only [↓SD, SP, ↓reduceIte, Nat.reduceEqDiff, ini, frz, rdAo, rd3o, rd2o, rdpo, rd1o, fnv, intv, VOp.dst, getRo, solEo, solo, solo1, allsz, List.all_cons, List.all_nil, Bool.and_true, beq_self_eq_true, List.length_cons, List.length_nil, Nat.zero_add, srcv, Nat.le_refl, List.take_succ_cons, List.take_zero, and_self, if_true, Nat.reduceAdd, Nat.reduceLT, eq_self, show ((k - xs.length : Nat) : Int) = (k : Int) - xs.length by omega]
    · rintro e E H n (⟨rfl, v, h1, h2, h3⟩ | ⟨rfl, h2⟩)
      · simp -dsimp only [↓SD, SP, ↓reduceIte, Nat.reduceEqDiff, ini, frz, rdAo, rd3o, rd2o, rdpo, rd1o, fnv, intv, VOp.dst, getRo, solEo, solo, solo1, allsz, List.all_cons, List.all_nil, Bool.and_true, beq_self_eq_true, List.length_cons, List.length_nil, Nat.zero_add, srcv, Nat.le_refl, List.take_succ_cons, List.take_zero, and_self, if_true, Nat.reduceAdd, Nat.reduceLT, eq_self, h1]
        exact ⟨_, rfl, fun _ => ⟨⟨by omega, h3⟩, v, rfl, h2⟩⟩
      · simp -dsimp only [↓SD, SP, ↓reduceIte, Nat.reduceEqDiff, ini, frz, rdAo, rd3o, rd2o, rdpo, rd1o, fnv, intv, VOp.dst, getRo, solEo, solo, solo1, allsz, List.all_cons, List.all_nil, Bool.and_true, beq_self_eq_true, List.length_cons, List.length_nil, Nat.zero_add, srcv, Nat.le_refl, List.take_succ_cons, List.take_zero, and_self, if_true, Nat.reduceAdd, Nat.reduceLT, eq_self, h2]
        exact ⟨_, rfl, by omega⟩
    · rintro m E H n Q K ⟨i, v, hm, h0, h1', h5, hv, hp⟩ hQ hK
      by_cases hi : i < xs.length
      · simp -dsimp only [↓SD, SP, ↓reduceIte, Nat.reduceEqDiff, ini, frz, rdAo, rd3o, rd2o, rdpo, rd1o, fnv, intv, VOp.dst, getRo, solEo, solo, solo1, allsz, List.all_cons, List.all_nil, Bool.and_true, beq_self_eq_true, List.length_cons, List.length_nil, Nat.zero_add, srcv, Nat.le_refl, List.take_succ_cons, List.take_zero, and_self, if_true, Nat.reduceAdd, Nat.reduceLT, eq_self, h0, h1', h5, l_lv, Int.ofNat_lt, hi, x_lv he _ _ hi, ↓d_lv he, ↓he.rd, ↓r_any]
        refine call_rule (hT xs[i] (List.getElem_mem hi) v (by omega)) ?_
        rintro lo1 hi1 r g1 g2 ⟨j, rfl, hj⟩
        by_cases hneg : j < 0
        · simp -dsimp only [↓SD, SP, ↓reduceIte, Nat.reduceEqDiff, ini, frz, rdAo, rd3o, rd2o, rdpo, rd1o, fnv, intv, VOp.dst, getRo, solEo, solo, solo1, allsz, List.all_cons, List.all_nil, Bool.and_true, beq_self_eq_true, List.length_cons, List.length_nil, Nat.zero_add, srcv, Nat.le_refl, List.take_succ_cons, List.take_zero, and_self, if_true, Nat.reduceAdd, Nat.reduceLT, eq_self, hneg, ↓r_any]
          exact hQ _ _ _ _ (.inr ⟨rfl, by simp -dsimp only [↓SD, SP, ↓reduceIte, Nat.reduceEqDiff, ini, frz, rdAo, rd3o, rd2o, rdpo, rd1o, fnv, intv, VOp.dst, getRo, solEo, solo, solo1, allsz, List.all_cons, List.all_nil, Bool.and_true, beq_self_eq_true, List.length_cons, List.length_nil, Nat.zero_add, srcv, Nat.le_refl, List.take_succ_cons, List.take_zero, and_self, if_true, Nat.reduceAdd, Nat.reduceLT, eq_self]⟩)
        · obtain ⟨ho, k1, rfl, hk1⟩ := hj (by omega)
          simp -dsimp only [↓SD, SP, ↓reduceIte, Nat.reduceEqDiff, ini, frz, rdAo, rd3o, rd2o, rdpo, rd1o, fnv, intv, VOp.dst, getRo, solEo, solo, solo1, allsz, List.all_cons, List.all_nil, Bool.and_true, beq_self_eq_true, List.length_cons, List.length_nil, Nat.zero_add, srcv, Nat.le_refl, List.take_succ_cons, List.take_zero, and_self, if_true, Nat.reduceAdd, Nat.reduceLT, eq_self, hneg, h5, wrap64 ((i : Int) + 1) (by omega), ↓r_any]
          refine hK (m - 1) _ _ _ (by omega) ⟨i + 1, k1, by omega, ?_, ?_, ?_, by omega, ?_⟩
          · simp -dsimp only [↓SD, SP, ↓reduceIte, Nat.reduceEqDiff, ini, frz, rdAo, rd3o, rd2o, rdpo, rd1o, fnv, intv, VOp.dst, getRo, solEo, solo, solo1, allsz, List.all_cons, List.all_nil, Bool.and_true, beq_self_eq_true, List.length_cons, List.length_nil, Nat.zero_add, srcv, Nat.le_refl, List.take_succ_cons, List.take_zero, and_self, if_true, Nat.reduceAdd, Nat.reduceLT, eq_self, h0]
          · simp -dsimp only [↓SD, SP, ↓reduceIte, Nat.reduceEqDiff, ini, frz, rdAo, rd3o, rd2o, rdpo, rd1o, fnv, intv, VOp.dst, getRo, solEo, solo, solo1, allsz, List.all_cons, List.all_nil, Bool.and_true, beq_self_eq_true, List.length_cons, List.length_nil, Nat.zero_add, srcv, Nat.le_refl, List.take_succ_cons, List.take_zero, and_self, if_true, Nat.reduceAdd, Nat.reduceLT, eq_self]
          · simp -dsimp only [↓SD, SP, ↓reduceIte, Nat.reduceEqDiff, ini, frz, rdAo, rd3o, rd2o, rdpo, rd1o, fnv, intv, VOp.dst, getRo, solEo, solo, solo1, allsz, List.all_cons, List.all_nil, Bool.and_true, beq_self_eq_true, List.length_cons, List.length_nil, Nat.zero_add, srcv, Nat.le_refl, List.take_succ_cons, List.take_zero, and_self, if_true, Nat.reduceAdd, Nat.reduceLT, eq_self, Int.natCast_add, Int.natCast_one]
          · intro h hh
            rw [List.take_succ_eq_append_getElem hi] at hh
            rcases List.mem_append.1 hh with hh | hh
            · exact hp h hh
            · obtain rfl := List.mem_singleton.1 hh
              exact ho
      · simp -dsimp only [↓SD, SP, ↓reduceIte, Nat.reduceEqDiff, ini, frz, rdAo, rd3o, rd2o, rdpo, rd1o, fnv, intv, VOp.dst, getRo, solEo, solo, solo1, allsz, List.all_cons, List.all_nil, Bool.and_true, beq_self_eq_true, List.length_cons, List.length_nil, Nat.zero_add, srcv, Nat.le_refl, List.take_succ_cons, List.take_zero, and_self, if_true, Nat.reduceAdd, Nat.reduceLT, eq_self, h0, h1', h5, l_lv, Int.ofNat_lt, hi]
        refine hQ _ _ _ _ (.inl ⟨rfl, v, h1', hv, ?_⟩)
        rwa [List.take_of_length_le (by omega)] at hp

/-- a list of structs that the law has made -/
def IsL {α : Type} (s : Nat) (Is : Nat → Nat → α → AV → Prop) (Fl : AV → Prop) (lo hi : Nat) (xs : List α) (bare : Bool) (r : AV) : Prop :=
  (xs = [] ∧ r = .emp ∧ bare = true) ∨ ∃ g rows, lo ≤ g ∧ g < hi ∧ r = .lsl (some (g, s)) xs.length rows ∧ rows.length = xs.length + rm xs.length ∧ Tin lo hi (g :: tagsL rows) ∧
    (∀ (i : Nat) (x : α) (y : AV), xs[i]? = some x → rows[i]? = some y → ∃ a b, Is a b x y) ∧ ∀ (i : Nat) (y : AV), xs.length ≤ i → rows[i]? = some y → Fl y
theorem set_next {α : Type} {xs : List α} {m : Nat} {z y : α} : (xs ++ List.replicate (m + 1) z).set xs.length y = (xs ++ [y]) ++ List.replicate m z := by
  rw [List.set_append_right _ _ (Nat.le_refl _), Nat.sub_self, List.replicate_succ, List.set_cons_zero, List.append_assoc]
  rfl
theorem tin_snoc {lo hi hi' a b g : Nat} {rows : List AV} {y : AV} (h : Tin lo hi (g :: tagsL rows)) (hy : Tin a b (tags y)) (h1 : hi ≤ a) (h2 : b ≤ hi') (h3 : lo ≤ a) (h4 : hi ≤ hi') : Tin lo hi' (g :: tagsL (rows ++ [y])) := by
  rw [tagsL_app]
  simp only [tagsL, List.append_nil]
  exact h.app (hy.mono (Nat.le_refl _) h2) h1 h3 h4

theorem g_to {P : Program} {f s bytes fT fF fR : Nat} {z : AV} (hk : chkFn P f (gTo s bytes fT fF fR z) = true) (hb : bytes ≤ 100000) (hs : 0 < s) {α : Type} {e : α → AV} (he : El s e) (Is : Nat → Nat → α → AV → Prop) (Fl : AV → Prop) (hIs : ∀ lo hi x r, Is lo hi x r → (∃ fs, r = .agg fs ∧ fs.length = s) ∧ Tin lo hi (tags r) ∧ ∀ H, solo H r = some (r, H))
    (hfl : ∀ r, Fl r → (∃ fs, r = .agg fs ∧ fs.length = s) ∧ ∀ H, solo H r = some (r, H)) (xs : List α) (bare : Bool) (hx : xs.length ≤ 1000000) (hR : ∀ k : Nat, k ≤ 1000000 → OK P fR [.int .i64 k] (fun _ _ r => r = .int .i64 (rm k)))
    (hT : ∀ x ∈ xs, OK P fT [e x, .bool bare] (fun lo hi r => Is lo hi x r)) (hF : OK P fF [] (fun lo hi r => Fl r ∧ Tin lo hi (tags r))) :
    OK P f [lv e xs, .bool bare] (fun lo hi r => IsL s Is Fl lo hi xs bare r) := by
  refine fn_ok hk rfl ?_
  have hR := hR xs.length hx
  generalize OK P = L at *
  intro lo
  have hrm := rm_le xs.length
  have hby : ((xs.length : Int) + rm xs.length) * bytes ≤ 140737488355328 := by
    have : (xs.length + rm xs.length) * bytes ≤ 2000001 * 100000 := Nat.mul_le_mul (by omega) hb
    have h2 : (((xs.length + rm xs.length) * bytes : Nat) : Int) ≤ ((2000001 * 100000 : Nat) : Int) := Int.ofNat_le.2 this
    rw [Int.natCast_mul, Int.natCast_add] at h2
    omega
  by_cases hemp : bare = true ∧ xs = []
  · obtain ⟨rfl, rfl⟩ := hemp
    simp -dsimp only [↓SD, SP, ↓reduceIte, Nat.reduceEqDiff, ini, frz, rdAo, rd3o, rd2o, rdpo, rd1o, fnv, intv, VOp.dst, getRo, solEo, solo, solo1, allsz, List.all_cons, List.all_nil, Bool.and_true, beq_self_eq_true, List.length_cons, List.length_nil, Nat.zero_add, srcv, Nat.le_refl, List.take_succ_cons, List.take_zero, and_self, if_true, Nat.reduceAdd, Nat.reduceLT, eq_self, gTo, l_lv, Int.natCast_zero]
    exact .inl ⟨rfl, rfl, rfl⟩
  have hc : bare = true → ¬ (xs.length : Int) = 0 := fun e h => hemp ⟨e, List.eq_nil_of_length_eq_zero (by omega)⟩
  obtain ⟨bb, hbb⟩ : ∃ bb : Bool, bb = bare := ⟨_, rfl⟩
  rw [← hbb] at hT
  cases bare
  case' true => simp -dsimp only [↓SD, SP, ↓reduceIte, Nat.reduceEqDiff, ini, frz, rdAo, rd3o, rd2o, rdpo, rd1o, fnv, intv, VOp.dst, getRo, solEo, solo, solo1, allsz, List.all_cons, List.all_nil, Bool.and_true, beq_self_eq_true, List.length_cons, List.length_nil, Nat.zero_add, srcv, Nat.le_refl, List.take_succ_cons, List.take_zero, and_self, if_true, Nat.reduceAdd, Nat.reduceLT, eq_self, gTo, l_lv, ↓r_any, hc rfl]
  case' false => simp -dsimp only [↓SD, SP, ↓reduceIte, Nat.reduceEqDiff, ini, frz, rdAo, rd3o, rd2o, rdpo, rd1o, fnv, intv, VOp.dst, getRo, solEo, solo, solo1, allsz, List.all_cons, List.all_nil, Bool.and_true, beq_self_eq_true, List.length_cons, List.length_nil, Nat.zero_add, srcv, Nat.le_refl, List.take_succ_cons, List.take_zero, and_self, if_true, Nat.reduceAdd, Nat.reduceLT, eq_self, gTo, l_lv, ↓r_any]
  all_goals
    refine call_rule hR ?_
    rintro lo1 hi1 r g1 g2 rfl
    simp -dsimp only [↓SD, SP, ↓reduceIte, Nat.reduceEqDiff, ini, frz, rdAo, rd3o, rd2o, rdpo, rd1o, fnv, intv, VOp.dst, getRo, solEo, solo, solo1, allsz, List.all_cons, List.all_nil, Bool.and_true, beq_self_eq_true, List.length_cons, List.length_nil, Nat.zero_add, srcv, Nat.le_refl, List.take_succ_cons, List.take_zero, and_self, if_true, Nat.reduceAdd, Nat.reduceLT, eq_self, wrap64 ((xs.length : Int) + rm xs.length) (by omega), ↓r_any]
    refine mk_at (by omega) fun g hg => ?_
    simp -dsimp only [↓SD, SP, ↓reduceIte, Nat.reduceEqDiff, ini, frz, rdAo, rd3o, rd2o, rdpo, rd1o, fnv, intv, VOp.dst, getRo, solEo, solo, solo1, allsz, List.all_cons, List.all_nil, Bool.and_true, beq_self_eq_true, List.length_cons, List.length_nil, Nat.zero_add, srcv, Nat.le_refl, List.take_succ_cons, List.take_zero, and_self, if_true, Nat.reduceAdd, Nat.reduceLT, eq_self, show ((xs.length : Int) + rm xs.length).toNat = xs.length + rm xs.length by omega]
    refine loop_rule (fun m E H n => ∃ rows : List AV, m + rows.length = xs.length ∧ E 0 = lv e xs ∧ E 1 = .bool bb ∧ E 5 = .own 20 g s (xs.length + rm xs.length) ∧ E 6 = .int .i64 rows.length ∧
          H 20 = some ⟨g, s, rows ++ List.replicate (m + rm xs.length) z, false, true, true⟩ ∧ Tin lo n (g :: tagsL rows) ∧ (∀ (i : Nat) (x : α) (y : AV), xs[i]? = some x → rows[i]? = some y → ∃ a b, Is a b x y) ∧ lo ≤ n)
      (fun e' E H n => e' = .exit 0 ∧ ∃ rows : List AV, rows.length = xs.length ∧ E 0 = lv e xs ∧ E 5 = .own 20 g s (xs.length + rm xs.length) ∧
          H 20 = some ⟨g, s, rows ++ List.replicate (rm xs.length) z, false, true, true⟩ ∧ Tin lo n (g :: tagsL rows) ∧ (∀ (i : Nat) (x : α) (y : AV), xs[i]? = some x → rows[i]? = some y → ∃ a b, Is a b x y) ∧ lo ≤ n)
      xs.length ⟨[], rfl, rfl, ?_, ?_, rfl, ?_, ?_, by simp, by omega⟩ ?_ ?_
    · simp -dsimp only [↓SD, SP, ↓reduceIte, Nat.reduceEqDiff, ini, frz, rdAo, rd3o, rd2o, rdpo, rd1o, fnv, intv, VOp.dst, getRo, solEo, solo, solo1, allsz, List.all_cons, List.all_nil, Bool.and_true, beq_self_eq_true, List.length_cons, List.length_nil, Nat.zero_add, srcv, Nat.le_refl, List.take_succ_cons, List.take_zero, and_self, if_true, Nat.reduceAdd, Nat.reduceLT, eq_self, hbb]
    · simp -dsimp only [↓SD, SP, ↓reduceIte, Nat.reduceEqDiff, ini, frz, rdAo, rd3o, rd2o, rdpo, rd1o, fnv, intv, VOp.dst, getRo, solEo, solo, solo1, allsz, List.all_cons, List.all_nil, Bool.and_true, beq_self_eq_true, List.length_cons, List.length_nil, Nat.zero_add, srcv, Nat.le_refl, List.take_succ_cons, List.take_zero, and_self, if_true, Nat.reduceAdd, Nat.reduceLT, eq_self, show ((xs.length : Int) + rm xs.length).toNat = xs.length + rm xs.length by omega]
    · simp -dsimp only [↓SD, SP, ↓reduceIte, Nat.reduceEqDiff, ini, frz, rdAo, rd3o, rd2o, rdpo, rd1o, fnv, intv, VOp.dst, getRo, solEo, solo, solo1, allsz, List.all_cons, List.all_nil, Bool.and_true, beq_self_eq_true, List.length_cons, List.length_nil, Nat.zero_add, srcv, Nat.le_refl, List.take_succ_cons, List.take_zero, and_self, if_true, Nat.reduceAdd, Nat.reduceLT, eq_self, show ((xs.length : Int) + rm xs.length).toNat = xs.length + rm xs.length by omega]
    · exact Tin.nil.cons (by simp) (by omega) (by omega)
    · rintro e' E H n ⟨rfl, rows, hrl, h0, h5, hH, hT1, hI, hlo⟩
      simp -dsimp only [↓SD, SP, ↓reduceIte, Nat.reduceEqDiff, ini, frz, rdAo, rd3o, rd2o, rdpo, rd1o, fnv, intv, VOp.dst, getRo, solEo, solo, solo1, allsz, List.all_cons, List.all_nil, Bool.and_true, beq_self_eq_true, List.length_cons, List.length_nil, Nat.zero_add, srcv, Nat.le_refl, List.take_succ_cons, List.take_zero, and_self, if_true, Nat.reduceAdd, Nat.reduceLT, eq_self, h0, l_lv]
      refine loop_rule (fun m E H n => ∃ fs : List AV, m + fs.length = rm xs.length ∧ E 0 = lv e xs ∧ E 5 = .own 20 g s (xs.length + rm xs.length) ∧ E 7 = .int .i64 (xs.length + fs.length : Nat) ∧
            H 20 = some ⟨g, s, (rows ++ fs) ++ List.replicate m z, false, true, true⟩ ∧ Tin lo n (g :: tagsL (rows ++ fs)) ∧ (∀ y ∈ fs, Fl y) ∧ lo ≤ n)
        (fun e' E H n => e' = .exit 2 ∧ ∃ fs : List AV, fs.length = rm xs.length ∧ E 0 = lv e xs ∧ E 5 = .own 20 g s (xs.length + rm xs.length) ∧
            H 20 = some ⟨g, s, rows ++ fs, false, true, true⟩ ∧ Tin lo n (g :: tagsL (rows ++ fs)) ∧ ∀ y ∈ fs, Fl y)
        (rm xs.length) ⟨[], rfl, ?_, ?_, ?_, ?_, ?_, by simp, hlo⟩ ?_ ?_
      · simp -dsimp only [↓SD, SP, ↓reduceIte, Nat.reduceEqDiff, ini, frz, rdAo, rd3o, rd2o, rdpo, rd1o, fnv, intv, VOp.dst, getRo, solEo, solo, solo1, allsz, List.all_cons, List.all_nil, Bool.and_true, beq_self_eq_true, List.length_cons, List.length_nil, Nat.zero_add, srcv, Nat.le_refl, List.take_succ_cons, List.take_zero, and_self, if_true, Nat.reduceAdd, Nat.reduceLT, eq_self, h0]
      · simp -dsimp only [↓SD, SP, ↓reduceIte, Nat.reduceEqDiff, ini, frz, rdAo, rd3o, rd2o, rdpo, rd1o, fnv, intv, VOp.dst, getRo, solEo, solo, solo1, allsz, List.all_cons, List.all_nil, Bool.and_true, beq_self_eq_true, List.length_cons, List.length_nil, Nat.zero_add, srcv, Nat.le_refl, List.take_succ_cons, List.take_zero, and_self, if_true, Nat.reduceAdd, Nat.reduceLT, eq_self, h5]
      · simp -dsimp only [↓SD, SP, ↓reduceIte, Nat.reduceEqDiff, ini, frz, rdAo, rd3o, rd2o, rdpo, rd1o, fnv, intv, VOp.dst, getRo, solEo, solo, solo1, allsz, List.all_cons, List.all_nil, Bool.and_true, beq_self_eq_true, List.length_cons, List.length_nil, Nat.zero_add, srcv, Nat.le_refl, List.take_succ_cons, List.take_zero, and_self, if_true, Nat.reduceAdd, Nat.reduceLT, eq_self, Nat.add_zero]
      · simp -dsimp only [↓SD, SP, ↓reduceIte, Nat.reduceEqDiff, ini, frz, rdAo, rd3o, rd2o, rdpo, rd1o, fnv, intv, VOp.dst, getRo, solEo, solo, solo1, allsz, List.all_cons, List.all_nil, Bool.and_true, beq_self_eq_true, List.length_cons, List.length_nil, Nat.zero_add, srcv, Nat.le_refl, List.take_succ_cons, List.take_zero, and_self, if_true, Nat.reduceAdd, Nat.reduceLT, eq_self, hH]
      · simp -dsimp only [↓SD, SP, ↓reduceIte, Nat.reduceEqDiff, ini, frz, rdAo, rd3o, rd2o, rdpo, rd1o, fnv, intv, VOp.dst, getRo, solEo, solo, solo1, allsz, List.all_cons, List.all_nil, Bool.and_true, beq_self_eq_true, List.length_cons, List.length_nil, Nat.zero_add, srcv, Nat.le_refl, List.take_succ_cons, List.take_zero, and_self, if_true, Nat.reduceAdd, Nat.reduceLT, eq_self]
        exact hT1
      · rintro e' E H n ⟨rfl, fs, hfl', h0, h5, hH, hT2, hW⟩
        have hsl : slcv H s (.own 20 g s (xs.length + rm xs.length)) none (some (.int .i64 xs.length)) = some (.own 20 g s xs.length) := by
          simp [slcv, hH, hrl, hfl', hs]
        simp -dsimp only [↓SD, SP, ↓reduceIte, Nat.reduceEqDiff, ini, frz, rdAo, rd3o, rd2o, rdpo, rd1o, fnv, intv, VOp.dst, getRo, solEo, solo, solo1, allsz, List.all_cons, List.all_nil, Bool.and_true, beq_self_eq_true, List.length_cons, List.length_nil, Nat.zero_add, srcv, Nat.le_refl, List.take_succ_cons, List.take_zero, and_self, if_true, Nat.reduceAdd, Nat.reduceLT, eq_self, h0, h5, l_lv, hsl, hH, List.length_append, hrl, Nat.le_add_right]
        refine .inr ⟨g, rows ++ fs, by omega, ?_, rfl, by simp [hrl, hfl'], hT2, fun i x y hx hy => ?_, fun i y hi hy => ?_⟩
        · exact (hT2.2 g List.mem_cons_self).2
        · have hlt := (List.getElem?_eq_some_iff.1 hx).1
          rw [List.getElem?_append_left (by omega)] at hy
          exact hI i x y hx hy
        · rw [List.getElem?_append_right (by omega)] at hy
          exact hW y (List.mem_of_getElem? hy)
      · rintro m E H n Q K ⟨fs, hm, h0, h5, h7, hH, hT2, hW, hlo⟩ hQ hK
        cases m with
        | zero =>
          simp -dsimp only [↓SD, SP, ↓reduceIte, Nat.reduceEqDiff, ini, frz, rdAo, rd3o, rd2o, rdpo, rd1o, fnv, intv, VOp.dst, getRo, solEo, solo, solo1, allsz, List.all_cons, List.all_nil, Bool.and_true, beq_self_eq_true, List.length_cons, List.length_nil, Nat.zero_add, srcv, Nat.le_refl, List.take_succ_cons, List.take_zero, and_self, if_true, Nat.reduceAdd, Nat.reduceLT, eq_self, h0, h5, h7, Int.ofNat_lt, show ¬ xs.length + fs.length < xs.length + rm xs.length by omega]
          refine hQ _ _ _ _ ⟨rfl, fs, by omega, h0, h5, ?_, hT2, hW⟩
          rw [hH]
          simp
        | succ m =>
          simp -dsimp only [↓SD, SP, ↓reduceIte, Nat.reduceEqDiff, ini, frz, rdAo, rd3o, rd2o, rdpo, rd1o, fnv, intv, VOp.dst, getRo, solEo, solo, solo1, allsz, List.all_cons, List.all_nil, Bool.and_true, beq_self_eq_true, List.length_cons, List.length_nil, Nat.zero_add, srcv, Nat.le_refl, List.take_succ_cons, List.take_zero, and_self, if_true, Nat.reduceAdd, Nat.reduceLT, eq_self, h0, h5, h7, Int.ofNat_lt, show xs.length + fs.length < xs.length + rm xs.length by omega, ↓r_any]
          refine call_rule hF ?_
          rintro lo2 hi2 r g3 g4 ⟨hw, ht⟩
          obtain ⟨⟨ffs, rfl, hfl2⟩, hfs⟩ := hfl _ hw
          have hst := st_agg (i := xs.length + fs.length) hH (by simp; omega) hfl2 (hfs H)
          rw [show xs.length + fs.length = (rows ++ fs).length by simp [hrl], set_next] at hst
          simp only [List.length_append, hrl] at hst
          simp -dsimp only [↓SD, SP, ↓reduceIte, Nat.reduceEqDiff, ini, frz, rdAo, rd3o, rd2o, rdpo, rd1o, fnv, intv, VOp.dst, getRo, solEo, solo, solo1, allsz, List.all_cons, List.all_nil, Bool.and_true, beq_self_eq_true, List.length_cons, List.length_nil, Nat.zero_add, srcv, Nat.le_refl, List.take_succ_cons, List.take_zero, and_self, if_true, Nat.reduceAdd, Nat.reduceLT, eq_self, ↓r_any, h5, h7, x_own 20 g s (xs.length + rm xs.length) (xs.length + fs.length) (by omega), hst, wrap64 (((xs.length + fs.length : Nat) : Int) + 1) (by omega)]
          refine hK m _ _ _ rfl ⟨fs ++ [.agg ffs], by simp; omega, ?_, ?_, ?_, ?_, ?_, fun y hy => ?_, by omega⟩
          · simp -dsimp only [↓SD, SP, ↓reduceIte, Nat.reduceEqDiff, ini, frz, rdAo, rd3o, rd2o, rdpo, rd1o, fnv, intv, VOp.dst, getRo, solEo, solo, solo1, allsz, List.all_cons, List.all_nil, Bool.and_true, beq_self_eq_true, List.length_cons, List.length_nil, Nat.zero_add, srcv, Nat.le_refl, List.take_succ_cons, List.take_zero, and_self, if_true, Nat.reduceAdd, Nat.reduceLT, eq_self, h0]
          · simp -dsimp only [↓SD, SP, ↓reduceIte, Nat.reduceEqDiff, ini, frz, rdAo, rd3o, rd2o, rdpo, rd1o, fnv, intv, VOp.dst, getRo, solEo, solo, solo1, allsz, List.all_cons, List.all_nil, Bool.and_true, beq_self_eq_true, List.length_cons, List.length_nil, Nat.zero_add, srcv, Nat.le_refl, List.take_succ_cons, List.take_zero, and_self, if_true, Nat.reduceAdd, Nat.reduceLT, eq_self, h5]
          · simp -dsimp only [↓SD, SP, ↓reduceIte, Nat.reduceEqDiff, ini, frz, rdAo, rd3o, rd2o, rdpo, rd1o, fnv, intv, VOp.dst, getRo, solEo, solo, solo1, allsz, List.all_cons, List.all_nil, Bool.and_true, beq_self_eq_true, List.length_cons, List.length_nil, Nat.zero_add, srcv, Nat.le_refl, List.take_succ_cons, List.take_zero, and_self, if_true, Nat.reduceAdd, Nat.reduceLT, eq_self, List.length_append, show ((xs.length + fs.length : Nat) : Int) + 1 = ((xs.length + (fs.length + 1) : Nat) : Int) by omega]
          · simp -dsimp only [↓SD, SP, ↓reduceIte, Nat.reduceEqDiff, ini, frz, rdAo, rd3o, rd2o, rdpo, rd1o, fnv, intv, VOp.dst, getRo, solEo, solo, solo1, allsz, List.all_cons, List.all_nil, Bool.and_true, beq_self_eq_true, List.length_cons, List.length_nil, Nat.zero_add, srcv, Nat.le_refl, List.take_succ_cons, List.take_zero, and_self, if_true, Nat.reduceAdd, Nat.reduceLT, eq_self, List.append_assoc]
          · rw [← List.append_assoc]
            exact tin_snoc hT2 ht (by omega) (by omega) (by omega) (by omega)
          · rcases List.mem_append.1 hy with hy | hy
            · exact hW y hy
            · obtain rfl := List.mem_singleton.1 hy
              exact hw
    · rintro m E H n Q K ⟨rows, hm, h0, h1, h5, h6, hH, hT1, hI, hlo⟩ hQ hK
      cases m with
      | zero =>
        simp -dsimp only [↓SD, SP, ↓reduceIte, Nat.reduceEqDiff, ini, frz, rdAo, rd3o, rd2o, rdpo, rd1o, fnv, intv, VOp.dst, getRo, solEo, solo, solo1, allsz, List.all_cons, List.all_nil, Bool.and_true, beq_self_eq_true, List.length_cons, List.length_nil, Nat.zero_add, srcv, Nat.le_refl, List.take_succ_cons, List.take_zero, and_self, if_true, Nat.reduceAdd, Nat.reduceLT, eq_self, h0, h5, h6, l_lv, Int.ofNat_lt, show ¬ rows.length < xs.length by omega]
        refine hQ _ _ _ _ ⟨rfl, rows, by omega, h0, h5, ?_, hT1, hI, hlo⟩
        rw [hH]
        simp
      | succ m =>
        have hi : rows.length < xs.length := by omega
        simp -dsimp only [↓SD, SP, ↓reduceIte, Nat.reduceEqDiff, ini, frz, rdAo, rd3o, rd2o, rdpo, rd1o, fnv, intv, VOp.dst, getRo, solEo, solo, solo1, allsz, List.all_cons, List.all_nil, Bool.and_true, beq_self_eq_true, List.length_cons, List.length_nil, Nat.zero_add, srcv, Nat.le_refl, List.take_succ_cons, List.take_zero, and_self, if_true, Nat.reduceAdd, Nat.reduceLT, eq_self, h0, h1, h5, h6, l_lv, Int.ofNat_lt, hi, x_lv he _ _ hi, ↓d_lv he, ↓he.rd, ↓r_any]
        refine call_rule (hT xs[rows.length] (List.getElem_mem hi)) ?_
        rintro lo2 hi2 r g3 g4 hr
        obtain ⟨⟨ffs, rfl, hfl'⟩, ht, hso⟩ := hIs _ _ _ _ hr
        have hst := st_agg (i := rows.length) hH (by simp; omega) hfl' (hso H)
        rw [show m + 1 + rm xs.length = (m + rm xs.length) + 1 by omega, set_next] at hst
        simp -dsimp only [↓SD, SP, ↓reduceIte, Nat.reduceEqDiff, ini, frz, rdAo, rd3o, rd2o, rdpo, rd1o, fnv, intv, VOp.dst, getRo, solEo, solo, solo1, allsz, List.all_cons, List.all_nil, Bool.and_true, beq_self_eq_true, List.length_cons, List.length_nil, Nat.zero_add, srcv, Nat.le_refl, List.take_succ_cons, List.take_zero, and_self, if_true, Nat.reduceAdd, Nat.reduceLT, eq_self, ↓r_any, h5, h6, x_own 20 g s (xs.length + rm xs.length) rows.length (by omega), hst, wrap64 ((rows.length : Int) + 1) (by omega)]
        refine hK m _ _ _ rfl ⟨rows ++ [.agg ffs], by simp; omega, ?_, ?_, ?_, ?_, ?_, ?_, ?_, ?_⟩
        · simp -dsimp only [↓SD, SP, ↓reduceIte, Nat.reduceEqDiff, ini, frz, rdAo, rd3o, rd2o, rdpo, rd1o, fnv, intv, VOp.dst, getRo, solEo, solo, solo1, allsz, List.all_cons, List.all_nil, Bool.and_true, beq_self_eq_true, List.length_cons, List.length_nil, Nat.zero_add, srcv, Nat.le_refl, List.take_succ_cons, List.take_zero, and_self, if_true, Nat.reduceAdd, Nat.reduceLT, eq_self, h0]
        · simp -dsimp only [↓SD, SP, ↓reduceIte, Nat.reduceEqDiff, ini, frz, rdAo, rd3o, rd2o, rdpo, rd1o, fnv, intv, VOp.dst, getRo, solEo, solo, solo1, allsz, List.all_cons, List.all_nil, Bool.and_true, beq_self_eq_true, List.length_cons, List.length_nil, Nat.zero_add, srcv, Nat.le_refl, List.take_succ_cons, List.take_zero, and_self, if_true, Nat.reduceAdd, Nat.reduceLT, eq_self, h1]
        · simp -dsimp only [↓SD, SP, ↓reduceIte, Nat.reduceEqDiff, ini, frz, rdAo, rd3o, rd2o, rdpo, rd1o, fnv, intv, VOp.dst, getRo, solEo, solo, solo1, allsz, List.all_cons, List.all_nil, Bool.and_true, beq_self_eq_true, List.length_cons, List.length_nil, Nat.zero_add, srcv, Nat.le_refl, List.take_succ_cons, List.take_zero, and_self, if_true, Nat.reduceAdd, Nat.reduceLT, eq_self, h5]
        · simp -dsimp only [↓SD, SP, ↓reduceIte, Nat.reduceEqDiff, ini, frz, rdAo, rd3o, rd2o, rdpo, rd1o, fnv, intv, VOp.dst, getRo, solEo, solo, solo1, allsz, List.all_cons, List.all_nil, Bool.and_true, beq_self_eq_true, List.length_cons, List.length_nil, Nat.zero_add, srcv, Nat.le_refl, List.take_succ_cons, List.take_zero, and_self, if_true, Nat.reduceAdd, Nat.reduceLT, eq_self, List.length_append, Int.natCast_add, Int.natCast_one]
        · simp -dsimp only [↓SD, SP, ↓reduceIte, Nat.reduceEqDiff, ini, frz, rdAo, rd3o, rd2o, rdpo, rd1o, fnv, intv, VOp.dst, getRo, solEo, solo, solo1, allsz, List.all_cons, List.all_nil, Bool.and_true, beq_self_eq_true, List.length_cons, List.length_nil, Nat.zero_add, srcv, Nat.le_refl, List.take_succ_cons, List.take_zero, and_self, if_true, Nat.reduceAdd, Nat.reduceLT, eq_self]
        · exact tin_snoc hT1 ht (by omega) (by omega) (by omega) (by omega)
        · intro i x y hx hy
          rcases Nat.lt_or_ge i rows.length with hlt | hge
          · rw [List.getElem?_append_left hlt] at hy
            exact hI i x y hx hy
          · have hlt := (List.getElem?_eq_some_iff.1 hy).1
            simp at hlt
            obtain rfl : i = rows.length := by omega
            rw [List.getElem?_append_right (Nat.le_refl _)] at hy
            simp at hy
            subst hy
            rw [List.getElem?_eq_getElem hi] at hx
            obtain rfl := Option.some.inj hx
            exact ⟨_, _, hr⟩
        · omega
/-- with the room behind the elements -/
def fullL {α : Type} (eF e : α → AV) (fx : α) (xs : List α) : AV := .lsl none xs.length (xs.map eF ++ List.replicate (rm xs.length) (e fx))
theorem IsL.wk {α : Type} {s : Nat} {Is : Nat → Nat → α → AV → Prop} {e : α → AV} {Fl : AV → Prop} (hIs : ∀ lo hi x r, Is lo hi x r → Wk r (e x)) {lo hi : Nat} {xs : List α} {bare : Bool} {r : AV} (h : IsL s Is Fl lo hi xs bare r) : Wk r (lv e xs) := by
  rcases h with ⟨rfl, rfl, _⟩ | ⟨g, rows, _, _, rfl, hl, _, hI, _⟩
  · exact .emp
  · refine .lsl _ _ _ _ (by simp) (by simp; omega) fun i y z hy hz => ?_
    rw [List.getElem?_map] at hz
    obtain ⟨x, hx, rfl⟩ := Option.map_eq_some_iff.1 hz
    obtain ⟨a, b, h⟩ := hI i x y hx hy
    exact hIs _ _ _ _ h
theorem IsL.wkF {α : Type} {s : Nat} {Is : Nat → Nat → α → AV → Prop} {eF e : α → AV} {fx : α} {Fl : AV → Prop} (hfl : ∀ r, Fl r → Wk r (e fx)) (hIs : ∀ lo hi x r, Is lo hi x r → Wk r (eF x)) {lo hi : Nat} {xs : List α} {r : AV} (h : IsL s Is Fl lo hi xs false r) : Wk r (fullL eF e fx xs) := by
  rcases h with ⟨_, _, h⟩ | ⟨g, rows, _, _, rfl, hl, _, hI, hf⟩
  · cases h
  · refine .lsl _ _ _ _ (by simp) (by simp; omega) fun i y z hy hz => ?_
    rcases Nat.lt_or_ge i xs.length with hlt | hge
    · rw [List.getElem?_append_left (by simpa using hlt), List.getElem?_map] at hz
      obtain ⟨x, hx, rfl⟩ := Option.map_eq_some_iff.1 hz
      obtain ⟨a, b, h⟩ := hI i x y hx hy
      exact hIs _ _ _ _ h
    · rw [List.getElem?_append_right (by simpa using hge)] at hz
      have := List.eq_of_mem_replicate (List.mem_of_getElem? hz)
      subst this
      exact hfl _ (hf i y hge hy)
theorem IsL.tin {α : Type} {s : Nat} {Is : Nat → Nat → α → AV → Prop} {Fl : AV → Prop} {lo hi : Nat} {xs : List α} {bare : Bool} {r : AV} (h : IsL s Is Fl lo hi xs bare r) : Tin lo hi (tags r) := by
  rcases h with ⟨rfl, rfl, _⟩ | ⟨g, rows, _, _, rfl, hl, ht, _, _⟩
  · exact .nil
  · exact ht
theorem pf_lv {α : Type} {fl : Bool} (e : α → AV) (xs : List α) : Pf fl (lv e xs) := .lsl _ _ (by simp) (by simp)
theorem pf_full {α : Type} (eF e : α → AV) (fx : α) (xs : List α) : Pf true (fullL eF e fx xs) := .lsl _ _ (by simp) (by simp)

theorem g_in {P : Program} {f s fI fE fR : Nat} (hk : chkFn P f (gIn s fI fE fR) = true) (hs : 0 < s) {α : Type} {e eF : α → AV} {fx : α} (he : El s e) (hF : ∀ x, ∃ fs, eF x = .agg fs ∧ fs.length = s) (hFr : ∀ H x, rd3o true H (eF x) = some (eF x, [])) (xs : List α) (hx : xs.length ≤ 1000000)
    (hR : ∀ k : Nat, k ≤ 1000000 → OK P fR [.int .i64 k] (fun _ _ r => r = .int .i64 (rm k))) (hI : ∀ x ∈ xs, OK P fI [eF x, eF x] (fun _ _ r => r = .bool true))
    (hE : ∀ n, n ≤ 10000000 → OK P fE [lv e (List.replicate n fx), lv e (List.replicate n fx)] (fun _ _ r => r = .bool true)) :
    OK P f [fullL eF e fx xs, fullL eF e fx xs] (fun _ _ r => r = .bool true) := by
  refine fn_ok hk rfl ?_
  have hR := hR xs.length hx
  have hrm := rm_le xs.length
  have hE := hE (rm xs.length) (by omega)
  generalize OK P = L at *
  intro lo
  have hlen : lenv false (fullL eF e fx xs) = some xs.length := rfl
  have hidx : ∀ i, (h : i < xs.length) → idxAv s (fullL eF e fx xs) (.int .i64 i) = some (.lptr (eF xs[i])) := fun i h => by
    obtain ⟨fs, h1, h2⟩ := hF xs[i]
    have hg : (xs.map eF ++ List.replicate (rm xs.length) (e fx))[i]? = some (eF xs[i]) := by
      rw [List.getElem?_append_left (by simpa using h)]
      simp [h]
    simp [idxAv, fullL, h, hg, h1, AV.sz, h2]
  have hld : ∀ H x, ldv H (some s) (.lptr (eF x)) = some (eF x) := fun H x => by
    obtain ⟨fs, h1, h2⟩ := hF x
    simp [ldv, h1, fitsz, h2]
  have hsl : ∀ H, slcv H s (fullL eF e fx xs) (some (.int .i64 xs.length)) (some (.int .i64 ((xs.length : Int) + rm xs.length))) = some (lv e (List.replicate (rm xs.length) fx)) := fun H => by
    have hd : hdOk s (xs.map eF ++ List.replicate (rm xs.length) (e fx)) = true := by
      rw [← hd_iff]
      intro y hy
      have hm : y ∈ xs.map eF ++ List.replicate (rm xs.length) (e fx) := by
        cases hl : xs.map eF ++ List.replicate (rm xs.length) (e fx) with
        | nil => rw [hl] at hy; cases hy
        | cons z zs => rw [hl] at hy; simp at hy; subst hy; exact List.mem_cons_self
      rcases List.mem_append.1 hm with hm | hm
      · obtain ⟨x, _, rfl⟩ := List.mem_map.1 hm
        obtain ⟨fs, h1, h2⟩ := hF x
        rw [h1]
        exact h2
      · rw [List.eq_of_mem_replicate hm]
        obtain ⟨fs, h1, h2⟩ := he.agg fx
        rw [h1]
        exact h2
    have hn : ((xs.length : Int) + rm xs.length).toNat = xs.length + rm xs.length := by omega
    have hdr : (xs.map eF ++ List.replicate (rm xs.length) (e fx)).drop xs.length = List.replicate (rm xs.length) (e fx) := List.drop_left' (by simp)
    simp [slcv, fullL, hs, hd, hn, hdr, lv, Int.ofNat_le]
    omega
  simp -dsimp only [↓SD, SP, ↓reduceIte, Nat.reduceEqDiff, ini, frz, rdAo, rd3o, rd2o, rdpo, rd1o, fnv, intv, VOp.dst, getRo, solEo, solo, solo1, allsz, List.all_cons, List.all_nil, Bool.and_true, beq_self_eq_true, List.length_cons, List.length_nil, Nat.zero_add, srcv, Nat.le_refl, List.take_succ_cons, List.take_zero, and_self, if_true, Nat.reduceAdd, Nat.reduceLT, eq_self, gIn, hlen, ↓r_any]
  refine call_rule hR ?_
  rintro lo1 hi1 r - - rfl
  simp -dsimp only [↓SD, SP, ↓reduceIte, Nat.reduceEqDiff, ini, frz, rdAo, rd3o, rd2o, rdpo, rd1o, fnv, intv, VOp.dst, getRo, solEo, solo, solo1, allsz, List.all_cons, List.all_nil, Bool.and_true, beq_self_eq_true, List.length_cons, List.length_nil, Nat.zero_add, srcv, Nat.le_refl, List.take_succ_cons, List.take_zero, and_self, if_true, Nat.reduceAdd, Nat.reduceLT, eq_self, ↓r_any, hlen, wrap64 ((xs.length : Int) + rm xs.length) (by omega)]
  refine loop_rule (fun m E H n => ∃ i : Nat, m + i = xs.length ∧ E 0 = fullL eF e fx xs ∧ E 1 = fullL eF e fx xs ∧ E 5 = .int .i64 ((xs.length : Int) + rm xs.length) ∧ E 6 = .int .i64 i)
    (fun e' E H n => e' = .exit 0 ∧ E 0 = fullL eF e fx xs ∧ E 1 = fullL eF e fx xs ∧ E 5 = .int .i64 ((xs.length : Int) + rm xs.length)) xs.length ⟨0, rfl, ?_, ?_, ?_, ?_⟩ ?_ ?_
  · simp -dsimp only [↓SD, SP, ↓reduceIte, Nat.reduceEqDiff, ini, frz, rdAo, rd3o, rd2o, rdpo, rd1o, fnv, intv, VOp.dst, getRo, solEo, solo, solo1, allsz, List.all_cons, List.all_nil, Bool.and_true, beq_self_eq_true, List.length_cons, List.length_nil, Nat.zero_add, srcv, Nat.le_refl, List.take_succ_cons, List.take_zero, and_self, if_true, Nat.reduceAdd, Nat.reduceLT, eq_self]
  · simp -dsimp only [↓SD, SP, ↓reduceIte, Nat.reduceEqDiff, ini, frz, rdAo, rd3o, rd2o, rdpo, rd1o, fnv, intv, VOp.dst, getRo, solEo, solo, solo1, allsz, List.all_cons, List.all_nil, Bool.and_true, beq_self_eq_true, List.length_cons, List.length_nil, Nat.zero_add, srcv, Nat.le_refl, List.take_succ_cons, List.take_zero, and_self, if_true, Nat.reduceAdd, Nat.reduceLT, eq_self]
  · simp -dsimp only [↓SD, SP, ↓reduceIte, Nat.reduceEqDiff, ini, frz, rdAo, rd3o, rd2o, rdpo, rd1o, fnv, intv, VOp.dst, getRo, solEo, solo, solo1, allsz, List.all_cons, List.all_nil, Bool.and_true, beq_self_eq_true, List.length_cons, List.length_nil, Nat.zero_add, srcv, Nat.le_refl, List.take_succ_cons, List.take_zero, and_self, if_true, Nat.reduceAdd, Nat.reduceLT, eq_self]
  · simp -dsimp only [↓SD, SP, ↓reduceIte, Nat.reduceEqDiff, ini, frz, rdAo, rd3o, rd2o, rdpo, rd1o, fnv, intv, VOp.dst, getRo, solEo, solo, solo1, allsz, List.all_cons, List.all_nil, Bool.and_true, beq_self_eq_true, List.length_cons, List.length_nil, Nat.zero_add, srcv, Nat.le_refl, List.take_succ_cons, List.take_zero, and_self, if_true, Nat.reduceAdd, Nat.reduceLT, eq_self, Int.natCast_zero]
  · rintro e' E H n ⟨rfl, h0, h1, h5⟩
    simp -dsimp only [↓SD, SP, ↓reduceIte, Nat.reduceEqDiff, ini, frz, rdAo, rd3o, rd2o, rdpo, rd1o, fnv, intv, VOp.dst, getRo, solEo, solo, solo1, allsz, List.all_cons, List.all_nil, Bool.and_true, beq_self_eq_true, List.length_cons, List.length_nil, Nat.zero_add, srcv, Nat.le_refl, List.take_succ_cons, List.take_zero, and_self, if_true, Nat.reduceAdd, Nat.reduceLT, eq_self, h0, h1, h5, hlen, hsl, ↓rd_lv, ↓r_any]
    refine call_rule hE ?_
    rintro lo2 hi2 r - - rfl
    simp -dsimp only [↓SD, SP, ↓reduceIte, Nat.reduceEqDiff, ini, frz, rdAo, rd3o, rd2o, rdpo, rd1o, fnv, intv, VOp.dst, getRo, solEo, solo, solo1, allsz, List.all_cons, List.all_nil, Bool.and_true, beq_self_eq_true, List.length_cons, List.length_nil, Nat.zero_add, srcv, Nat.le_refl, List.take_succ_cons, List.take_zero, and_self, if_true, Nat.reduceAdd, Nat.reduceLT, eq_self, ↓r_any]
  · rintro m E H n Q K ⟨i, hm, h0, h1, h5, h6⟩ hQ hK
    by_cases hi : i < xs.length
    · simp -dsimp only [↓SD, SP, ↓reduceIte, Nat.reduceEqDiff, ini, frz, rdAo, rd3o, rd2o, rdpo, rd1o, fnv, intv, VOp.dst, getRo, solEo, solo, solo1, allsz, List.all_cons, List.all_nil, Bool.and_true, beq_self_eq_true, List.length_cons, List.length_nil, Nat.zero_add, srcv, Nat.le_refl, List.take_succ_cons, List.take_zero, and_self, if_true, Nat.reduceAdd, Nat.reduceLT, eq_self, h0, h1, h5, h6, hlen, Int.ofNat_lt, hi, hidx i hi, ↓hld, ↓hFr, ↓r_any]
      refine call_rule (hI xs[i] (List.getElem_mem hi)) ?_
      rintro lo2 hi2 r - - rfl
      simp -dsimp only [↓SD, SP, ↓reduceIte, Nat.reduceEqDiff, ini, frz, rdAo, rd3o, rd2o, rdpo, rd1o, fnv, intv, VOp.dst, getRo, solEo, solo, solo1, allsz, List.all_cons, List.all_nil, Bool.and_true, beq_self_eq_true, List.length_cons, List.length_nil, Nat.zero_add, srcv, Nat.le_refl, List.take_succ_cons, List.take_zero, and_self, if_true, Nat.reduceAdd, Nat.reduceLT, eq_self, ↓r_any, h6, wrap64 ((i : Int) + 1) (by omega)]
      refine hK (m - 1) _ _ _ (by omega) ⟨i + 1, by omega, ?_, ?_, ?_, ?_⟩
      · simp -dsimp only [↓SD, SP, ↓reduceIte, Nat.reduceEqDiff, ini, frz, rdAo, rd3o, rd2o, rdpo, rd1o, fnv, intv, VOp.dst, getRo, solEo, solo, solo1, allsz, List.all_cons, List.all_nil, Bool.and_true, beq_self_eq_true, List.length_cons, List.length_nil, Nat.zero_add, srcv, Nat.le_refl, List.take_succ_cons, List.take_zero, and_self, if_true, Nat.reduceAdd, Nat.reduceLT, eq_self, h0]
      · simp -dsimp only [↓SD, SP, ↓reduceIte, Nat.reduceEqDiff, ini, frz, rdAo, rd3o, rd2o, rdpo, rd1o, fnv, intv, VOp.dst, getRo, solEo, solo, solo1, allsz, List.all_cons, List.all_nil, Bool.and_true, beq_self_eq_true, List.length_cons, List.length_nil, Nat.zero_add, srcv, Nat.le_refl, List.take_succ_cons, List.take_zero, and_self, if_true, Nat.reduceAdd, Nat.reduceLT, eq_self, h1]
      · simp -dsimp only [↓SD, SP, ↓reduceIte, Nat.reduceEqDiff, ini, frz, rdAo, rd3o, rd2o, rdpo, rd1o, fnv, intv, VOp.dst, getRo, solEo, solo, solo1, allsz, List.all_cons, List.all_nil, Bool.and_true, beq_self_eq_true, List.length_cons, List.length_nil, Nat.zero_add, srcv, Nat.le_refl, List.take_succ_cons, List.take_zero, and_self, if_true, Nat.reduceAdd, Nat.reduceLT, eq_self, h5]
      · simp -dsimp only [↓SD, SP, ↓reduceIte, Nat.reduceEqDiff, ini, frz, rdAo, rd3o, rd2o, rdpo, rd1o, fnv, intv, VOp.dst, getRo, solEo, solo, solo1, allsz, List.all_cons, List.all_nil, Bool.and_true, beq_self_eq_true, List.length_cons, List.length_nil, Nat.zero_add, srcv, Nat.le_refl, List.take_succ_cons, List.take_zero, and_self, if_true, Nat.reduceAdd, Nat.reduceLT, eq_self, Int.natCast_add, Int.natCast_one]
    · simp -dsimp only [↓SD, SP, ↓reduceIte, Nat.reduceEqDiff, ini, frz, rdAo, rd3o, rd2o, rdpo, rd1o, fnv, intv, VOp.dst, getRo, solEo, solo, solo1, allsz, List.all_cons, List.all_nil, Bool.and_true, beq_self_eq_true, List.length_cons, List.length_nil, Nat.zero_add, srcv, Nat.le_refl, List.take_succ_cons, List.take_zero, and_self, if_true, Nat.reduceAdd, Nat.reduceLT, eq_self, h0, h1, h5, h6, hlen, Int.ofNat_lt, hi]
      exact hQ _ _ _ _ ⟨rfl, h0, h1, h5⟩
end Go.AVM
