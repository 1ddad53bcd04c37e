/- The reader of draws: what its functions give. -/
import Derived.Test.YtnanbjnadkoekaaDoorMI
import Derived.Test.YtnanbjnadkoekaaDoorG
import Derived.Test.YtnanbjnadkoekaaDoorMF
set_option linter.unusedSimpArgs false
set_option linter.unusedVariables false
namespace Go.AVM
def ub (b : UInt8) : AV := .int .u8 b.toNat
/-- bytes, of which so many are spoken of -/
def byL (n : Nat) (bs : List UInt8) : AV := .lsl none n (bs.map ub)
theorem l_by (n : Nat) (bs : List UInt8) : lenv false (byL n bs) = some n := Eq.trans rfl rfl
theorem x_by (n : Nat) (bs : List UInt8) (i : Nat) (h : i < n) (hn : n ≤ bs.length) : idxAv 1 (byL n bs) (.int .i64 i) = some (.lptr (ub (bs[i]'(by omega)))) := by
  have hi : i < bs.length := by omega
  simp [idxAv, byL, h, hi, AV.sz, ub]
theorem d_ub (H : Hp) (b : UInt8) : ldv H none (.lptr (ub b)) = some (ub b) := Eq.trans rfl rfl
theorem c_ub (b : UInt8) : convv .i64 (ub b) = some (.int .i64 b.toNat) := by
  have h : b.toNat < 256 := b.toNat_lt
  simp only [convv, ub]
  rw [wrap64 (b.toNat : Int) (by omega)]
/-- the reader's block -/
def rdB (b n : Nat) (bs : List UInt8) (p : Nat) : Blk := ⟨b, 2, [.agg [byL n bs, .int .i64 p]], false, false, false⟩
def Rdr (n : Nat) (bs : List UInt8) : Prop := n ≤ bs.length ∧ n ≤ 2000
theorem xor_nat (x y : Nat) (hx : x < 4611686018427387904) (hy : y < 4611686018427387904) : binv .xor (.int .i64 x) (.int .i64 y) = some (.int .i64 ((x ^^^ y : Nat) : Int)) := by
  have h : x ^^^ y < 4611686018427387904 := Nat.xor_lt_two_pow (n := 62) hx hy
  have e1 : (BitVec.ofInt 64 (x : Int)).toNat = x := by
    rw [BitVec.toNat_ofInt]
    omega
  have e2 : (BitVec.ofInt 64 (y : Int)).toNat = y := by
    rw [BitVec.toNat_ofInt]
    omega
  have e3 : (BitVec.ofInt IntKind.i64.bits (x : Int) ^^^ BitVec.ofInt IntKind.i64.bits (y : Int)).toNat = x ^^^ y := by
    show (BitVec.ofInt 64 (x : Int) ^^^ BitVec.ofInt 64 (y : Int)).toNat = _
    rw [BitVec.toNat_xor, e1, e2]
  simp only [binv, if_true]
  rw [e3, wrap64 ((x ^^^ y : Nat) : Int) (by omega)]
theorem xor_small (x y : Nat) (hx : x < 4611686018427387904) (hy : y < 4611686018427387904) : x ^^^ y < 4611686018427387904 := Nat.xor_lt_two_pow (n := 62) hx hy
theorem tm_nat (a b : Nat) : ((a : Int)).tmod (b : Int) = ((a % b : Nat) : Int) := by
  rw [Int.tmod_eq_emod_of_nonneg (by omega)]
  rfl
theorem td_nat (a b : Nat) : ((a : Int)).tdiv (b : Int) = ((a / b : Nat) : Int) := by
  rw [Int.tdiv_eq_ediv_of_nonneg (by omega)]
  rfl
theorem s_pick (d b n : Nat) (bs : List UInt8) (p : Nat) (m : Int) (H0 : Hp) (hH : H0 d = some (rdB b n bs p)) (hr : Rdr n bs) (hp : p ≤ 1000000000) (hm : m ≤ 1000000) (hm0 : -1000000 ≤ m) :
    OKM Go.Proofs.Tryd.prog 85 [.optr d b 2 0 none, .int .i64 m] H0 (fun _ _ r H' => (∃ i : Nat, r = .int .i64 i ∧ (1 ≤ m → (i : Int) < m)) ∧ H' = updH H0 d (some (rdB b n bs (p + 1)))) := by
  refine fn_okM k85 rfl ?_
  generalize OK Go.Proofs.Tryd.prog = L at *
  intro lo hlo
  obtain ⟨hn, hn2⟩ := hr
  unfold rdB at hH
  have hfz : ∀ x : AV, ∀ y : AV, fldv 0 (.agg [x, y]) = if x.isAgg = false then some x else none := fun x y => by simp [fldv]
  have ib : (byL n bs).isAgg = false := rfl
  have zb : (byL n bs).sz = 1 := rfl
  simp -dsimp only [↓SD, SP, ↓reduceIte, Nat.reduceEqDiff, ini, frz, rdAo, rd3o, rd2o, rdpo, rd1o, fnv, intv, VOp.dst, getRo, solEo, solo, solo1, allsz, List.all_cons, List.all_nil, Bool.and_true, beq_self_eq_true, List.length_cons, List.length_nil, Nat.zero_add, srcv, Nat.le_refl, List.take_succ_cons, List.take_zero, and_self, if_true, Nat.reduceAdd, Nat.reduceLT, eq_self, fldAv, ↓ldv_f, ↓ldv_n, ↓stv_f, ↓stv_a, fldv, setf, bldv, small, Bool.true_and, List.getElem?_cons_zero, List.getElem?_cons_succ, List.set_cons_zero, List.set_cons_succ, Bool.false_eq_true, if_false, true_and, and_true, reduceCtorEq, false_implies, implies_true, forall_const, c85, nilv, hH, ib, zb, wrap64 ((p : Int) + 1) (by omega)]
  by_cases hm1 : m < 1
  · simp -dsimp only [↓SD, SP, ↓reduceIte, Nat.reduceEqDiff, ini, frz, rdAo, rd3o, rd2o, rdpo, rd1o, fnv, intv, VOp.dst, getRo, solEo, solo, solo1, allsz, List.all_cons, List.all_nil, Bool.and_true, beq_self_eq_true, List.length_cons, List.length_nil, Nat.zero_add, srcv, Nat.le_refl, List.take_succ_cons, List.take_zero, and_self, if_true, Nat.reduceAdd, Nat.reduceLT, eq_self, fldAv, ↓ldv_f, ↓ldv_n, ↓stv_f, ↓stv_a, fldv, setf, bldv, small, Bool.true_and, List.getElem?_cons_zero, List.getElem?_cons_succ, List.set_cons_zero, List.set_cons_succ, Bool.false_eq_true, if_false, true_and, and_true, reduceCtorEq, false_implies, implies_true, forall_const, hm1, noTup]
    refine ⟨⟨0, rfl, fun h => by omega⟩, ?_⟩
    simp [rdB]
  obtain ⟨M, rfl⟩ := Int.eq_ofNat_of_zero_le (show 0 ≤ m by omega)
  by_cases hn0 : n = 0
  · subst hn0
    simp -dsimp only [↓SD, SP, ↓reduceIte, Nat.reduceEqDiff, ini, frz, rdAo, rd3o, rd2o, rdpo, rd1o, fnv, intv, VOp.dst, getRo, solEo, solo, solo1, allsz, List.all_cons, List.all_nil, Bool.and_true, beq_self_eq_true, List.length_cons, List.length_nil, Nat.zero_add, srcv, Nat.le_refl, List.take_succ_cons, List.take_zero, and_self, if_true, Nat.reduceAdd, Nat.reduceLT, eq_self, fldAv, ↓ldv_f, ↓ldv_n, ↓stv_f, ↓stv_a, fldv, setf, bldv, small, Bool.true_and, List.getElem?_cons_zero, List.getElem?_cons_succ, List.set_cons_zero, List.set_cons_succ, Bool.false_eq_true, if_false, true_and, and_true, reduceCtorEq, false_implies, implies_true, forall_const, hm1, nilv, ib, zb, l_by, Int.natCast_zero, noTup]
    refine ⟨⟨0, rfl, fun h => by omega⟩, ?_⟩
    simp [rdB]
  have hn0' : ¬ (n : Int) = 0 := by omega
  have hM : ¬ (M : Int) = 0 := by omega
  by_cases hk : p < n
  · have hx := x_by n bs p hk hn
    generalize bs[p] = u at hx
    have hu : u.toNat < 256 := u.toNat_lt
    have hrem := v_rem .i64 (u.toNat : Int) (M : Int) hM
    simp -dsimp only [↓SD, SP, ↓reduceIte, Nat.reduceEqDiff, ini, frz, rdAo, rd3o, rd2o, rdpo, rd1o, fnv, intv, VOp.dst, getRo, solEo, solo, solo1, allsz, List.all_cons, List.all_nil, Bool.and_true, beq_self_eq_true, List.length_cons, List.length_nil, Nat.zero_add, srcv, Nat.le_refl, List.take_succ_cons, List.take_zero, and_self, if_true, Nat.reduceAdd, Nat.reduceLT, eq_self, fldAv, ↓ldv_f, ↓ldv_n, ↓stv_f, ↓stv_a, fldv, setf, bldv, small, Bool.true_and, List.getElem?_cons_zero, List.getElem?_cons_succ, List.set_cons_zero, List.set_cons_succ, Bool.false_eq_true, if_false, true_and, and_true, reduceCtorEq, false_implies, implies_true, forall_const, hm1, nilv, ib, zb, l_by, hn0', show (p : Int) + 1 - 1 = p by omega, wrap64 (p : Int) (by omega), Int.ofNat_lt, hk, hx, d_ub, c_ub, hrem, tm_nat, noTup]
    refine ⟨⟨u.toNat % M, rfl, fun _ => ?_⟩, ?_⟩
    · have := Nat.mod_lt u.toNat (show 0 < M by omega)
      omega
    · simp [rdB]
  · have hp1 := Nat.mod_lt p (show 0 < n by omega)
    have hp2 := Nat.mod_lt (p * 7 + 3) (show 0 < n by omega)
    have hx1 := x_by n bs (p % n) hp1 hn
    have hx2 := x_by n bs ((p * 7 + 3) % n) hp2 hn
    generalize bs[p % n]'(by omega) = u at hx1
    generalize bs[(p * 7 + 3) % n]'(by omega) = v at hx2
    have hu : u.toNat < 256 := u.toNat_lt
    have hv : v.toNat < 256 := v.toNat_lt
    have hq : p / n ≤ p := Nat.div_le_self p n
    have r1 := v_rem .i64 (p : Int) (n : Int) hn0'
    have r2 := v_rem .i64 ((p * 7 + 3 : Nat) : Int) (n : Int) hn0'
    have q1 := v_quo (p : Int) (n : Int) hn0'
    have t1 := td_nat p n
    generalize p / n = c at t1 hq
    generalize hX : u.toNat * 131 + v.toNat * 1117 + p * 29 + c * 53 = X
    have hX2 : X < 1000000000000 := by omega
    have q2 := v_quo (X : Int) 64 (by decide)
    have t2 : ((X : Int)).tdiv 64 = ((X / 64 : Nat) : Int) := td_nat X 64
    have hx3 := xor_nat X (X / 64) (by omega) (by omega)
    have hx4 := xor_small X (X / 64) (by omega) (by omega)
    generalize X ^^^ (X / 64) = Y at hx3 hx4
    have r3 := v_rem .i64 (Y : Int) (M : Int) hM
    simp -dsimp only [↓SD, SP, ↓reduceIte, Nat.reduceEqDiff, ini, frz, rdAo, rd3o, rd2o, rdpo, rd1o, fnv, intv, VOp.dst, getRo, solEo, solo, solo1, allsz, List.all_cons, List.all_nil, Bool.and_true, beq_self_eq_true, List.length_cons, List.length_nil, Nat.zero_add, srcv, Nat.le_refl, List.take_succ_cons, List.take_zero, and_self, if_true, Nat.reduceAdd, Nat.reduceLT, eq_self, fldAv, ↓ldv_f, ↓ldv_n, ↓stv_f, ↓stv_a, fldv, setf, bldv, small, Bool.true_and, List.getElem?_cons_zero, List.getElem?_cons_succ, List.set_cons_zero, List.set_cons_succ, Bool.false_eq_true, if_false, true_and, and_true, reduceCtorEq, false_implies, implies_true, forall_const, hm1, nilv, ib, zb, l_by, hn0', show (p : Int) + 1 - 1 = p by omega, wrap64 (p : Int) (by omega), Int.ofNat_lt, hk, r1, tm_nat, hx1, hx2, d_ub, c_ub, wrap64 ((u.toNat : Int) * 131) (by omega), wrap64 ((p : Int) * 7) (by omega), wrap64 ((p : Int) * 7 + 3) (by omega), show (p : Int) * 7 + 3 = ((p * 7 + 3 : Nat) : Int) by omega, wrap64 ((p * 7 + 3 : Nat) : Int) (by omega), r2, wrap64 ((v.toNat : Int) * 1117) (by omega), wrap64 ((u.toNat : Int) * 131 + (v.toNat : Int) * 1117) (by omega), wrap64 ((p : Int) * 29) (by omega), wrap64 ((u.toNat : Int) * 131 + (v.toNat : Int) * 1117 + (p : Int) * 29) (by omega), q1, t1, wrap64 (c : Int) (by omega), wrap64 ((c : Int) * 53) (by omega), show (u.toNat : Int) * 131 + (v.toNat : Int) * 1117 + (p : Int) * 29 + (c : Int) * 53 = (X : Int) by omega, wrap64 (X : Int) (by omega), q2, t2, wrap64 ((X / 64 : Nat) : Int) (by omega), hx3, r3, noTup]
    refine ⟨⟨Y % M, rfl, fun _ => ?_⟩, ?_⟩
    · have := Nat.mod_lt Y (show 0 < M by omega)
      omega
    · simp [rdB]
end Go.AVM

/- Draws of paths. -/
set_option linter.unusedSimpArgs false
set_option linter.unusedVariables false
namespace Go.AVM
/-- a call that is handed one block -/
theorem callm_rd {l : FuncId → Law} {m : FuncId → LawM} {gh : Env → Hp → Nat → Env → Hp → Prop} {g : FuncId} {args : List AV} {H : Hp} {n : Nat} {C : Nat → Nat → AV → Hp → Prop} {d : Nat} {k k' : Blk} {P : AV → Prop} (hH : H d = some k) (hf : k.fz = false)
    (h : ∀ H1 : Hp, H1 d = some k → m g args H1 (fun _ _ r H' => P r ∧ H' = updH H1 d (some k'))) (hk : ∀ lo hi r, n ≤ lo → lo ≤ hi → P r → C lo hi r (updH H d (some k'))) : bcallm ⟨l, m, gh⟩ g args H n C := by
  refine callm_rule (fun q => q == d) (h (givenH (fun q => q == d) H) (by simp [givenH, hH])) (fun q k2 hq h2 => ?_) fun lo hi r H' h1 h2 h3 => ⟨fun q k2 hq => ?_, ?_⟩
  · obtain rfl : q = d := by simpa using hq
    rw [hH] at h2
    obtain rfl := Option.some.inj h2
    exact hf
  · rw [h3.2] at hq
    by_cases e : q = d
    · simp [e]
    · simp [updH, givenH, e] at hq
  · have : backH (fun q => q == d) H H' = updH H d (some k') := by
      rw [h3.2]
      funext q
      by_cases e : q = d <;> simp [backH, updH, givenH, e]
    rw [this]
    exact hk lo hi r h1 h2 h3.1
/-- a call that is handed two, of which one stays -/
theorem callm_rd2 {l : FuncId → Law} {m : FuncId → LawM} {gh : Env → Hp → Nat → Env → Hp → Prop} {g : FuncId} {args : List AV} {H : Hp} {n : Nat} {C : Nat → Nat → AV → Hp → Prop} {d d2 : Nat} {k k' k2 : Blk} {P : AV → Prop} (hH : H d = some k) (hf : k.fz = false) (hH2 : H d2 = some k2) (hf2 : k2.fz = false)
    (h : ∀ H1 : Hp, H1 d = some k → H1 d2 = some k2 → m g args H1 (fun _ _ r H' => P r ∧ H' = updH H1 d (some k'))) (hk : ∀ lo hi r, n ≤ lo → lo ≤ hi → P r → C lo hi r (updH H d (some k'))) : bcallm ⟨l, m, gh⟩ g args H n C := by
  refine callm_rule (fun q => q == d || q == d2) (h (givenH (fun q => q == d || q == d2) H) (by simp [givenH, hH]) (by simp [givenH, hH2])) (fun q k3 hq h2 => ?_) fun lo hi r H' h1 h2 h3 => ⟨fun q k3 hq => ?_, ?_⟩
  · have hq' : q = d ∨ q = d2 := by simpa using hq
    rcases hq' with rfl | rfl
    · rw [hH] at h2
      obtain rfl := Option.some.inj h2
      exact hf
    · rw [hH2] at h2
      obtain rfl := Option.some.inj h2
      exact hf2
  · rw [h3.2] at hq
    by_cases e : q = d
    · simp [e]
    · by_cases e2 : q = d2
      · simp [e2]
      · simp [updH, givenH, e, e2] at hq
  · have : backH (fun q => q == d || q == d2) H H' = updH H d (some k') := by
      rw [h3.2]
      funext q
      by_cases e : q = d
      · simp [backH, updH, e]
      · by_cases e2 : q = d2 <;> simp [backH, updH, givenH, e, e2]
    rw [this]
    exact hk lo hi r h1 h2 h3.1
theorem x_ownS (dl bl len i : Nat) (h : i < len) : idxAv 1 (.own dl bl 1 len) (.int .i64 i) = some (.optr dl bl 1 i none) := x_own _ _ _ _ _ h
theorem s_of (d b n : Nat) (bs : List UInt8) (p : Nat) (dl bl : Nat) (l : List ByteArray) (row ex : Bool) (H0 : Hp) (hH : H0 d = some (rdB b n bs p)) (hl : H0 dl = some ⟨bl, 1, l.map .str, false, row, ex⟩) (hr : Rdr n bs) (hp : p ≤ 1000000000) (hl0 : 0 < l.length) (hl1 : l.length ≤ 1000000) :
    OKM Go.Proofs.Tryd.prog 50 [.optr d b 2 0 none, .own dl bl 1 l.length] H0 (fun _ _ r H' => (∃ s ∈ l, r = .str s) ∧ H' = updH H0 d (some (rdB b n bs (p + 1)))) := by
  have hne : dl ≠ d := fun e => by
    subst e
    rw [hH] at hl
    have := congrArg (Option.map Blk.s) hl
    simp [rdB] at this
  refine fn_okM k50 rfl ?_
  have h1 := fun H1 h => s_pick d b n bs p l.length H1 h hr hp (by omega) (by omega)
  intro lo hlo
  simp -dsimp only [↓SD, SP, ↓reduceIte, Nat.reduceEqDiff, ini, frz, rdAo, rd3o, rd2o, rdpo, rd1o, fnv, intv, VOp.dst, getRo, solEo, solo, solo1, allsz, List.all_cons, List.all_nil, Bool.and_true, beq_self_eq_true, List.length_cons, List.length_nil, Nat.zero_add, srcv, Nat.le_refl, List.take_succ_cons, List.take_zero, and_self, if_true, Nat.reduceAdd, Nat.reduceLT, eq_self, c50]
  refine callm_rd hH rfl h1 ?_
  rintro lo1 hi1 r - - ⟨i, rfl, hi⟩
  have hi' : i < l.length := by have := hi (by omega); omega
  have hg : updH H0 d (some (rdB b n bs (p + 1))) dl = some ⟨bl, 1, l.map .str, false, row, ex⟩ := by simp [updH, hne, hl]
  have hld : ldv (updH H0 d (some (rdB b n bs (p + 1)))) none (.optr dl bl 1 i none) = some (.str l[i]) := by
    rw [ldv_n, hg]
    simp [fitsz, hi', AV.isAgg, AV.sz]
  simp -dsimp only [↓SD, SP, ↓reduceIte, Nat.reduceEqDiff, ini, frz, rdAo, rd3o, rd2o, rdpo, rd1o, fnv, intv, VOp.dst, getRo, solEo, solo, solo1, allsz, List.all_cons, List.all_nil, Bool.and_true, beq_self_eq_true, List.length_cons, List.length_nil, Nat.zero_add, srcv, Nat.le_refl, List.take_succ_cons, List.take_zero, and_self, if_true, Nat.reduceAdd, Nat.reduceLT, eq_self, x_ownS _ _ _ _ hi', hld, noTup]
  exact ⟨⟨l[i], List.getElem_mem hi', rfl⟩, trivial⟩
/-- a call that makes one block -/
theorem callm_new {l : FuncId → Law} {m : FuncId → LawM} {gh : Env → Hp → Nat → Env → Hp → Prop} {g : FuncId} {args : List AV} {H : Hp} {n : Nat} {C : Nat → Nat → AV → Hp → Prop} {d : Nat} {P : AV → Blk → Prop} (hH : H d = none)
    (h : m g args (fun _ => none) (fun _ _ r H' => ∃ k, P r k ∧ H' = updH (fun _ => none) d (some k))) (hk : ∀ lo hi r k, n ≤ lo → lo ≤ hi → P r k → C lo hi r (updH H d (some k))) : bcallm ⟨l, m, gh⟩ g args H n C := by
  have e0 : givenH (fun q => q == d) H = fun _ => none := by
    funext q
    by_cases e : q = d <;> simp [givenH, e, hH]
  refine callm_rule (R := fun _ _ r H' => ∃ k, P r k ∧ H' = updH (fun _ => none) d (some k)) (fun q => q == d) (by rw [e0]; exact h) (fun q k2 hq h2 => ?_) ?_
  · obtain rfl : q = d := by simpa using hq
    rw [hH] at h2
    cases h2
  rintro lo hi r H' h1 h2 ⟨k, h3, h4⟩
  refine ⟨fun q k2 hq => ?_, ?_⟩
  · rw [h4] at hq
    by_cases e : q = d
    · simp [e]
    · simp [updH, e] at hq
  · have : backH (fun q => q == d) H H' = updH H d (some k) := by
      rw [h4]
      funext q
      by_cases e : q = d <;> simp [backH, updH, e]
    rw [this]
    exact hk lo hi r k h1 h2 h3
theorem sl_by (H : Hp) (n : Nat) (bs : List UInt8) (h : 2000 ≤ bs.length) : slcv H 1 (byL n bs) none (some (.int .i64 2000)) = some (byL 2000 bs) := by
  simp [slcv, byL]
  omega
theorem s_l30Open (bs : List UInt8) (hl : bs.length ≤ 1048576) : OKM Go.Proofs.Tryd.prog 49 [byL bs.length bs] (fun _ => none) (fun _ _ r H' => ∃ k, (∃ b n, Rdr n bs ∧ k = rdB b n bs 0 ∧ r = .optr 10 b 2 0 none) ∧ H' = updH (fun _ => none) 10 (some k)) := by
  refine fn_okM k49 rfl ?_
  generalize OK Go.Proofs.Tryd.prog = L at *
  intro lo hlo
  have z : ∀ n, (byL n bs).isAgg = false ∧ (byL n bs).sz = 1 := fun n => ⟨rfl, rfl⟩
  by_cases h : (2000 : Int) < bs.length
  · have hs := fun H => sl_by H bs.length bs (by omega)
    simp -dsimp only [↓SD, SP, ↓reduceIte, Nat.reduceEqDiff, ini, frz, rdAo, rd3o, rd2o, rdpo, rd1o, fnv, intv, VOp.dst, getRo, solEo, solo, solo1, allsz, List.all_cons, List.all_nil, Bool.and_true, beq_self_eq_true, List.length_cons, List.length_nil, Nat.zero_add, srcv, Nat.le_refl, List.take_succ_cons, List.take_zero, and_self, if_true, Nat.reduceAdd, Nat.reduceLT, eq_self, fldAv, ↓ldv_f, ↓ldv_n, ↓stv_f, ↓stv_a, fldv, setf, bldv, small, Bool.true_and, List.getElem?_cons_zero, List.getElem?_cons_succ, List.set_cons_zero, List.set_cons_succ, Bool.false_eq_true, if_false, true_and, and_true, reduceCtorEq, false_implies, implies_true, forall_const, c49, l_by, h, hs, z]
    refine bal_mk fun b hb => ?_
    simp -dsimp only [↓SD, SP, ↓reduceIte, Nat.reduceEqDiff, ini, frz, rdAo, rd3o, rd2o, rdpo, rd1o, fnv, intv, VOp.dst, getRo, solEo, solo, solo1, allsz, List.all_cons, List.all_nil, Bool.and_true, beq_self_eq_true, List.length_cons, List.length_nil, Nat.zero_add, srcv, Nat.le_refl, List.take_succ_cons, List.take_zero, and_self, if_true, Nat.reduceAdd, Nat.reduceLT, eq_self, noTup]
    exact ⟨_, ⟨b, 2000, ⟨by omega, by omega⟩, rfl, rfl⟩, rfl⟩
  · simp -dsimp only [↓SD, SP, ↓reduceIte, Nat.reduceEqDiff, ini, frz, rdAo, rd3o, rd2o, rdpo, rd1o, fnv, intv, VOp.dst, getRo, solEo, solo, solo1, allsz, List.all_cons, List.all_nil, Bool.and_true, beq_self_eq_true, List.length_cons, List.length_nil, Nat.zero_add, srcv, Nat.le_refl, List.take_succ_cons, List.take_zero, and_self, if_true, Nat.reduceAdd, Nat.reduceLT, eq_self, fldAv, ↓ldv_f, ↓ldv_n, ↓stv_f, ↓stv_a, fldv, setf, bldv, small, Bool.true_and, List.getElem?_cons_zero, List.getElem?_cons_succ, List.set_cons_zero, List.set_cons_succ, Bool.false_eq_true, if_false, true_and, and_true, reduceCtorEq, false_implies, implies_true, forall_const, c49, l_by, h, z]
    refine bal_mk fun b hb => ?_
    simp -dsimp only [↓SD, SP, ↓reduceIte, Nat.reduceEqDiff, ini, frz, rdAo, rd3o, rd2o, rdpo, rd1o, fnv, intv, VOp.dst, getRo, solEo, solo, solo1, allsz, List.all_cons, List.all_nil, Bool.and_true, beq_self_eq_true, List.length_cons, List.length_nil, Nat.zero_add, srcv, Nat.le_refl, List.take_succ_cons, List.take_zero, and_self, if_true, Nat.reduceAdd, Nat.reduceLT, eq_self, noTup]
    exact ⟨_, ⟨b, bs.length, ⟨by omega, by omega⟩, rfl, rfl⟩, rfl⟩
theorem s_l30Path (b n : Nat) (bs : List UInt8) (p : Nat) (H0 : Hp) (hH : H0 10 = some (rdB b n bs p)) (hr : Rdr n bs) (hp : p ≤ 1000000) :
    OKM Go.Proofs.Tryd.prog 86 [.optr 10 b 2 0 none] H0 (fun _ _ r H' => (∃ s : ByteArray, s.size ≤ 100 ∧ r = .str s) ∧ ∃ H1, H1 10 = some (rdB b n bs (p + 1)) ∧ H' = H1) := by
  refine fn_okM k86 rfl ?_
  intro lo hlo
  simp -dsimp only [↓SD, SP, ↓reduceIte, Nat.reduceEqDiff, ini, frz, rdAo, rd3o, rd2o, rdpo, rd1o, fnv, intv, VOp.dst, getRo, solEo, solo, solo1, allsz, List.all_cons, List.all_nil, Bool.and_true, beq_self_eq_true, List.length_cons, List.length_nil, Nat.zero_add, srcv, Nat.le_refl, List.take_succ_cons, List.take_zero, and_self, if_true, Nat.reduceAdd, Nat.reduceLT, eq_self, c86]
  refine bal_mk fun g hg => ?_
  simp -dsimp only [↓SD, SP, ↓reduceIte, Nat.reduceEqDiff, ini, frz, rdAo, rd3o, rd2o, rdpo, rd1o, fnv, intv, VOp.dst, getRo, solEo, solo, solo1, allsz, List.all_cons, List.all_nil, Bool.and_true, beq_self_eq_true, List.length_cons, List.length_nil, Nat.zero_add, srcv, Nat.le_refl, List.take_succ_cons, List.take_zero, and_self, if_true, Nat.reduceAdd, Nat.reduceLT, eq_self]
  refine callm_rd2 (d := 10) (d2 := 4) (k2 := ⟨g, 1, List.map AV.str [⟨#[97]⟩, ⟨#[98]⟩, ⟨#[100, 47, 101]⟩, ⟨#[100, 47, 102]⟩, ⟨#[103, 47, 104, 47, 105]⟩, ⟨#[103, 47, 107]⟩, ⟨#[122]⟩], false, true, true⟩) (by first | (simp -dsimp only [↓SD, SP, ↓reduceIte, Nat.reduceEqDiff, ini, frz, rdAo, rd3o, rd2o, rdpo, rd1o, fnv, intv, VOp.dst, getRo, solEo, solo, solo1, allsz, List.all_cons, List.all_nil, Bool.and_true, beq_self_eq_true, List.length_cons, List.length_nil, Nat.zero_add, srcv, Nat.le_refl, List.take_succ_cons, List.take_zero, and_self, if_true, Nat.reduceAdd, Nat.reduceLT, eq_self, hH]; done) | (simp -dsimp only [↓SD, SP, ↓reduceIte, Nat.reduceEqDiff, ini, frz, rdAo, rd3o, rd2o, rdpo, rd1o, fnv, intv, VOp.dst, getRo, solEo, solo, solo1, allsz, List.all_cons, List.all_nil, Bool.and_true, beq_self_eq_true, List.length_cons, List.length_nil, Nat.zero_add, srcv, Nat.le_refl, List.take_succ_cons, List.take_zero, and_self, if_true, Nat.reduceAdd, Nat.reduceLT, eq_self, hH]; rfl) | rfl) rfl (by first | (simp -dsimp only [↓SD, SP, ↓reduceIte, Nat.reduceEqDiff, ini, frz, rdAo, rd3o, rd2o, rdpo, rd1o, fnv, intv, VOp.dst, getRo, solEo, solo, solo1, allsz, List.all_cons, List.all_nil, Bool.and_true, beq_self_eq_true, List.length_cons, List.length_nil, Nat.zero_add, srcv, Nat.le_refl, List.take_succ_cons, List.take_zero, and_self, if_true, Nat.reduceAdd, Nat.reduceLT, eq_self]; done) | (simp -dsimp only [↓SD, SP, ↓reduceIte, Nat.reduceEqDiff, ini, frz, rdAo, rd3o, rd2o, rdpo, rd1o, fnv, intv, VOp.dst, getRo, solEo, solo, solo1, allsz, List.all_cons, List.all_nil, Bool.and_true, beq_self_eq_true, List.length_cons, List.length_nil, Nat.zero_add, srcv, Nat.le_refl, List.take_succ_cons, List.take_zero, and_self, if_true, Nat.reduceAdd, Nat.reduceLT, eq_self]; rfl) | rfl) rfl (fun H1 h1 h2 => s_of 10 b n bs p 4 g [⟨#[97]⟩, ⟨#[98]⟩, ⟨#[100, 47, 101]⟩, ⟨#[100, 47, 102]⟩, ⟨#[103, 47, 104, 47, 105]⟩, ⟨#[103, 47, 107]⟩, ⟨#[122]⟩] true true H1 h1 h2 hr (by omega) (by decide) (by decide)) ?_
  rintro lo1 hi1 r - - ⟨s, hs, rfl⟩
  simp -dsimp only [↓SD, SP, ↓reduceIte, Nat.reduceEqDiff, ini, frz, rdAo, rd3o, rd2o, rdpo, rd1o, fnv, intv, VOp.dst, getRo, solEo, solo, solo1, allsz, List.all_cons, List.all_nil, Bool.and_true, beq_self_eq_true, List.length_cons, List.length_nil, Nat.zero_add, srcv, Nat.le_refl, List.take_succ_cons, List.take_zero, and_self, if_true, Nat.reduceAdd, Nat.reduceLT, eq_self, noTup]
  refine ⟨⟨s, ?_, rfl⟩, ?_⟩
  · have : ∀ s ∈ ([⟨#[97]⟩, ⟨#[98]⟩, ⟨#[100, 47, 101]⟩, ⟨#[100, 47, 102]⟩, ⟨#[103, 47, 104, 47, 105]⟩, ⟨#[103, 47, 107]⟩, ⟨#[122]⟩] : List ByteArray), s.size ≤ 100 := by decide
    exact this s hs
  · simp [updH]
theorem nofz_none : ∀ d k, (fun _ => none : Hp) d = some k → k.fz = false := fun d k h => by cases h
theorem nofz_upd {H : Hp} {d : Nat} {k : Blk} (h : ∀ q k, H q = some k → k.fz = false) (hk : k.fz = false) : ∀ q k', updH H d (some k) q = some k' → k'.fz = false := fun q k' hq => by
  by_cases e : q = d
  · subst e
    simp [updH] at hq
    subst hq
    exact hk
  · simp [updH, e] at hq
    exact h q k' hq
theorem s_l30AnyPath (b n : Nat) (bs : List UInt8) (p : Nat) (H0 : Hp) (hH : H0 10 = some (rdB b n bs p)) (hnf : ∀ d k, H0 d = some k → k.fz = false) (hr : Rdr n bs) (hp : p ≤ 1000) :
    OKM Go.Proofs.Tryd.prog 51 [.optr 10 b 2 0 none] H0 (fun _ _ r _ => ∃ s : ByteArray, s.size ≤ 100 ∧ r = .str s) := by
  refine fn_okM k51 rfl ?_
  intro lo hlo
  simp -dsimp only [↓SD, SP, ↓reduceIte, Nat.reduceEqDiff, ini, frz, rdAo, rd3o, rd2o, rdpo, rd1o, fnv, intv, VOp.dst, getRo, solEo, solo, solo1, allsz, List.all_cons, List.all_nil, Bool.and_true, beq_self_eq_true, List.length_cons, List.length_nil, Nat.zero_add, srcv, Nat.le_refl, List.take_succ_cons, List.take_zero, and_self, if_true, Nat.reduceAdd, Nat.reduceLT, eq_self, c51]
  refine callm_rd (d := 10) hH rfl (fun H1 h => s_pick 10 b n bs p 6 H1 h hr (by omega) (by decide) (by decide)) ?_
  rintro lo1 hi1 r - - ⟨i, rfl, hi⟩
  by_cases h0 : (i : Int) = 0
  · simp -dsimp only [↓SD, SP, ↓reduceIte, Nat.reduceEqDiff, ini, frz, rdAo, rd3o, rd2o, rdpo, rd1o, fnv, intv, VOp.dst, getRo, solEo, solo, solo1, allsz, List.all_cons, List.all_nil, Bool.and_true, beq_self_eq_true, List.length_cons, List.length_nil, Nat.zero_add, srcv, Nat.le_refl, List.take_succ_cons, List.take_zero, and_self, if_true, Nat.reduceAdd, Nat.reduceLT, eq_self, h0]
    refine bal_mk fun g hg => ?_
    simp -dsimp only [↓SD, SP, ↓reduceIte, Nat.reduceEqDiff, ini, frz, rdAo, rd3o, rd2o, rdpo, rd1o, fnv, intv, VOp.dst, getRo, solEo, solo, solo1, allsz, List.all_cons, List.all_nil, Bool.and_true, beq_self_eq_true, List.length_cons, List.length_nil, Nat.zero_add, srcv, Nat.le_refl, List.take_succ_cons, List.take_zero, and_self, if_true, Nat.reduceAdd, Nat.reduceLT, eq_self]
    refine callm_rd2 (d := 10) (d2 := 7) (k2 := ⟨g, 1, List.map AV.str [⟨#[]⟩, ⟨#[100]⟩, ⟨#[103]⟩, ⟨#[65]⟩, ⟨#[97, 47]⟩, ⟨#[97, 47, 98, 47, 99, 47, 100]⟩, ⟨#[116, 111, 111, 108, 111, 110, 103]⟩, ⟨#[103, 47, 104]⟩, ⟨#[100, 47, 101, 47, 102]⟩], false, true, true⟩) (by first | (simp -dsimp only [↓SD, SP, ↓reduceIte, Nat.reduceEqDiff, ini, frz, rdAo, rd3o, rd2o, rdpo, rd1o, fnv, intv, VOp.dst, getRo, solEo, solo, solo1, allsz, List.all_cons, List.all_nil, Bool.and_true, beq_self_eq_true, List.length_cons, List.length_nil, Nat.zero_add, srcv, Nat.le_refl, List.take_succ_cons, List.take_zero, and_self, if_true, Nat.reduceAdd, Nat.reduceLT, eq_self]; done) | (simp -dsimp only [↓SD, SP, ↓reduceIte, Nat.reduceEqDiff, ini, frz, rdAo, rd3o, rd2o, rdpo, rd1o, fnv, intv, VOp.dst, getRo, solEo, solo, solo1, allsz, List.all_cons, List.all_nil, Bool.and_true, beq_self_eq_true, List.length_cons, List.length_nil, Nat.zero_add, srcv, Nat.le_refl, List.take_succ_cons, List.take_zero, and_self, if_true, Nat.reduceAdd, Nat.reduceLT, eq_self]; rfl) | rfl) rfl (by first | (simp -dsimp only [↓SD, SP, ↓reduceIte, Nat.reduceEqDiff, ini, frz, rdAo, rd3o, rd2o, rdpo, rd1o, fnv, intv, VOp.dst, getRo, solEo, solo, solo1, allsz, List.all_cons, List.all_nil, Bool.and_true, beq_self_eq_true, List.length_cons, List.length_nil, Nat.zero_add, srcv, Nat.le_refl, List.take_succ_cons, List.take_zero, and_self, if_true, Nat.reduceAdd, Nat.reduceLT, eq_self]; done) | (simp -dsimp only [↓SD, SP, ↓reduceIte, Nat.reduceEqDiff, ini, frz, rdAo, rd3o, rd2o, rdpo, rd1o, fnv, intv, VOp.dst, getRo, solEo, solo, solo1, allsz, List.all_cons, List.all_nil, Bool.and_true, beq_self_eq_true, List.length_cons, List.length_nil, Nat.zero_add, srcv, Nat.le_refl, List.take_succ_cons, List.take_zero, and_self, if_true, Nat.reduceAdd, Nat.reduceLT, eq_self]; rfl) | rfl) rfl (fun H1 h1 h2 => s_of 10 b n bs (p + 1) 7 g [⟨#[]⟩, ⟨#[100]⟩, ⟨#[103]⟩, ⟨#[65]⟩, ⟨#[97, 47]⟩, ⟨#[97, 47, 98, 47, 99, 47, 100]⟩, ⟨#[116, 111, 111, 108, 111, 110, 103]⟩, ⟨#[103, 47, 104]⟩, ⟨#[100, 47, 101, 47, 102]⟩] true true H1 h1 h2 hr (by omega) (by decide) (by decide)) ?_
    rintro lo2 hi2 r - - ⟨s, hs, rfl⟩
    simp -dsimp only [↓SD, SP, ↓reduceIte, Nat.reduceEqDiff, ini, frz, rdAo, rd3o, rd2o, rdpo, rd1o, fnv, intv, VOp.dst, getRo, solEo, solo, solo1, allsz, List.all_cons, List.all_nil, Bool.and_true, beq_self_eq_true, List.length_cons, List.length_nil, Nat.zero_add, srcv, Nat.le_refl, List.take_succ_cons, List.take_zero, and_self, if_true, Nat.reduceAdd, Nat.reduceLT, eq_self, noTup]
    refine ⟨s, ?_, rfl⟩
    have : ∀ s ∈ ([⟨#[]⟩, ⟨#[100]⟩, ⟨#[103]⟩, ⟨#[65]⟩, ⟨#[97, 47]⟩, ⟨#[97, 47, 98, 47, 99, 47, 100]⟩, ⟨#[116, 111, 111, 108, 111, 110, 103]⟩, ⟨#[103, 47, 104]⟩, ⟨#[100, 47, 101, 47, 102]⟩] : List ByteArray), s.size ≤ 100 := by decide
    exact this s hs
  · simp -dsimp only [↓SD, SP, ↓reduceIte, Nat.reduceEqDiff, ini, frz, rdAo, rd3o, rd2o, rdpo, rd1o, fnv, intv, VOp.dst, getRo, solEo, solo, solo1, allsz, List.all_cons, List.all_nil, Bool.and_true, beq_self_eq_true, List.length_cons, List.length_nil, Nat.zero_add, srcv, Nat.le_refl, List.take_succ_cons, List.take_zero, and_self, if_true, Nat.reduceAdd, Nat.reduceLT, eq_self, h0]
    refine callm_all (s_l30Path b n bs (p + 1) _ (by first | (simp -dsimp only [↓SD, SP, ↓reduceIte, Nat.reduceEqDiff, ini, frz, rdAo, rd3o, rd2o, rdpo, rd1o, fnv, intv, VOp.dst, getRo, solEo, solo, solo1, allsz, List.all_cons, List.all_nil, Bool.and_true, beq_self_eq_true, List.length_cons, List.length_nil, Nat.zero_add, srcv, Nat.le_refl, List.take_succ_cons, List.take_zero, and_self, if_true, Nat.reduceAdd, Nat.reduceLT, eq_self]; done) | (simp -dsimp only [↓SD, SP, ↓reduceIte, Nat.reduceEqDiff, ini, frz, rdAo, rd3o, rd2o, rdpo, rd1o, fnv, intv, VOp.dst, getRo, solEo, solo, solo1, allsz, List.all_cons, List.all_nil, Bool.and_true, beq_self_eq_true, List.length_cons, List.length_nil, Nat.zero_add, srcv, Nat.le_refl, List.take_succ_cons, List.take_zero, and_self, if_true, Nat.reduceAdd, Nat.reduceLT, eq_self]; rfl) | rfl) hr (by omega)) (by repeat (first | exact hnf | refine nofz_upd ?_ rfl)) ?_
    rintro lo2 hi2 r H' - - ⟨⟨s, hs, rfl⟩, -⟩
    simp -dsimp only [↓SD, SP, ↓reduceIte, Nat.reduceEqDiff, ini, frz, rdAo, rd3o, rd2o, rdpo, rd1o, fnv, intv, VOp.dst, getRo, solEo, solo, solo1, allsz, List.all_cons, List.all_nil, Bool.and_true, beq_self_eq_true, List.length_cons, List.length_nil, Nat.zero_add, srcv, Nat.le_refl, List.take_succ_cons, List.take_zero, and_self, if_true, Nat.reduceAdd, Nat.reduceLT, eq_self, noTup]
    exact ⟨s, hs, rfl⟩
theorem rd_by (H : Hp) (bs : List UInt8) : rd3o false H (byL bs.length bs) = some (byL bs.length bs, []) := by
  have h1 : (bs.map ub).take bs.length = bs.map ub := List.take_of_length_le (by simp)
  simp [byL, rd3o, rd2o, rdpo, rd1o, h1]
theorem mkR_2 (x y : AV) : mkR [x, y] = .tup [x, y] := Eq.trans rfl rfl
theorem s_DrawPathIn (bs : List UInt8) (hl : bs.length ≤ 1048576) : OK Go.Proofs.Tryd.prog 16 [byL bs.length bs] (fun _ _ r => ∃ a b : ByteArray, r = .tup [.str a, .str b] ∧ a.size ≤ 100 ∧ b.size ≤ 100) := by
  refine fn_ok k16 rfl ?_
  intro lo
  simp -dsimp only [↓SD, SP, ↓reduceIte, Nat.reduceEqDiff, ini, frz, rdAo, rd3o, rd2o, rdpo, rd1o, fnv, intv, VOp.dst, getRo, solEo, solo, solo1, allsz, List.all_cons, List.all_nil, Bool.and_true, beq_self_eq_true, List.length_cons, List.length_nil, Nat.zero_add, srcv, Nat.le_refl, List.take_succ_cons, List.take_zero, and_self, if_true, Nat.reduceAdd, Nat.reduceLT, eq_self, c16]
  refine callm_new (d := 10) rfl (s_l30Open bs hl) ?_
  rintro lo1 hi1 r k - - ⟨b, n, hr, rfl, rfl⟩
  simp -dsimp only [↓SD, SP, ↓reduceIte, Nat.reduceEqDiff, ini, frz, rdAo, rd3o, rd2o, rdpo, rd1o, fnv, intv, VOp.dst, getRo, solEo, solo, solo1, allsz, List.all_cons, List.all_nil, Bool.and_true, beq_self_eq_true, List.length_cons, List.length_nil, Nat.zero_add, srcv, Nat.le_refl, List.take_succ_cons, List.take_zero, and_self, if_true, Nat.reduceAdd, Nat.reduceLT, eq_self]
  refine bal_mk fun g hg => ?_
  simp -dsimp only [↓SD, SP, ↓reduceIte, Nat.reduceEqDiff, ini, frz, rdAo, rd3o, rd2o, rdpo, rd1o, fnv, intv, VOp.dst, getRo, solEo, solo, solo1, allsz, List.all_cons, List.all_nil, Bool.and_true, beq_self_eq_true, List.length_cons, List.length_nil, Nat.zero_add, srcv, Nat.le_refl, List.take_succ_cons, List.take_zero, and_self, if_true, Nat.reduceAdd, Nat.reduceLT, eq_self]
  refine callm_rd2 (d := 10) (d2 := 9) (k2 := ⟨g, 1, List.map AV.str [⟨#[97]⟩, ⟨#[100]⟩, ⟨#[103]⟩, ⟨#[103, 47, 104]⟩, ⟨#[100, 47, 101]⟩, ⟨#[]⟩, ⟨#[97, 97]⟩], false, true, true⟩) (by first | (simp -dsimp only [↓SD, SP, ↓reduceIte, Nat.reduceEqDiff, ini, frz, rdAo, rd3o, rd2o, rdpo, rd1o, fnv, intv, VOp.dst, getRo, solEo, solo, solo1, allsz, List.all_cons, List.all_nil, Bool.and_true, beq_self_eq_true, List.length_cons, List.length_nil, Nat.zero_add, srcv, Nat.le_refl, List.take_succ_cons, List.take_zero, and_self, if_true, Nat.reduceAdd, Nat.reduceLT, eq_self]; done) | (simp -dsimp only [↓SD, SP, ↓reduceIte, Nat.reduceEqDiff, ini, frz, rdAo, rd3o, rd2o, rdpo, rd1o, fnv, intv, VOp.dst, getRo, solEo, solo, solo1, allsz, List.all_cons, List.all_nil, Bool.and_true, beq_self_eq_true, List.length_cons, List.length_nil, Nat.zero_add, srcv, Nat.le_refl, List.take_succ_cons, List.take_zero, and_self, if_true, Nat.reduceAdd, Nat.reduceLT, eq_self]; rfl) | rfl) rfl (by first | (simp -dsimp only [↓SD, SP, ↓reduceIte, Nat.reduceEqDiff, ini, frz, rdAo, rd3o, rd2o, rdpo, rd1o, fnv, intv, VOp.dst, getRo, solEo, solo, solo1, allsz, List.all_cons, List.all_nil, Bool.and_true, beq_self_eq_true, List.length_cons, List.length_nil, Nat.zero_add, srcv, Nat.le_refl, List.take_succ_cons, List.take_zero, and_self, if_true, Nat.reduceAdd, Nat.reduceLT, eq_self]; done) | (simp -dsimp only [↓SD, SP, ↓reduceIte, Nat.reduceEqDiff, ini, frz, rdAo, rd3o, rd2o, rdpo, rd1o, fnv, intv, VOp.dst, getRo, solEo, solo, solo1, allsz, List.all_cons, List.all_nil, Bool.and_true, beq_self_eq_true, List.length_cons, List.length_nil, Nat.zero_add, srcv, Nat.le_refl, List.take_succ_cons, List.take_zero, and_self, if_true, Nat.reduceAdd, Nat.reduceLT, eq_self]; rfl) | rfl) rfl (fun H1 h1 h2 => s_of 10 b n bs 0 9 g [⟨#[97]⟩, ⟨#[100]⟩, ⟨#[103]⟩, ⟨#[103, 47, 104]⟩, ⟨#[100, 47, 101]⟩, ⟨#[]⟩, ⟨#[97, 97]⟩] true true H1 h1 h2 hr (by omega) (by decide) (by decide)) ?_
  rintro lo2 hi2 r - - ⟨s, hs, rfl⟩
  simp -dsimp only [↓SD, SP, ↓reduceIte, Nat.reduceEqDiff, ini, frz, rdAo, rd3o, rd2o, rdpo, rd1o, fnv, intv, VOp.dst, getRo, solEo, solo, solo1, allsz, List.all_cons, List.all_nil, Bool.and_true, beq_self_eq_true, List.length_cons, List.length_nil, Nat.zero_add, srcv, Nat.le_refl, List.take_succ_cons, List.take_zero, and_self, if_true, Nat.reduceAdd, Nat.reduceLT, eq_self]
  refine callm_all (s_l30AnyPath b n bs 1 _ (by first | (simp -dsimp only [↓SD, SP, ↓reduceIte, Nat.reduceEqDiff, ini, frz, rdAo, rd3o, rd2o, rdpo, rd1o, fnv, intv, VOp.dst, getRo, solEo, solo, solo1, allsz, List.all_cons, List.all_nil, Bool.and_true, beq_self_eq_true, List.length_cons, List.length_nil, Nat.zero_add, srcv, Nat.le_refl, List.take_succ_cons, List.take_zero, and_self, if_true, Nat.reduceAdd, Nat.reduceLT, eq_self]; done) | (simp -dsimp only [↓SD, SP, ↓reduceIte, Nat.reduceEqDiff, ini, frz, rdAo, rd3o, rd2o, rdpo, rd1o, fnv, intv, VOp.dst, getRo, solEo, solo, solo1, allsz, List.all_cons, List.all_nil, Bool.and_true, beq_self_eq_true, List.length_cons, List.length_nil, Nat.zero_add, srcv, Nat.le_refl, List.take_succ_cons, List.take_zero, and_self, if_true, Nat.reduceAdd, Nat.reduceLT, eq_self]; rfl) | rfl) (by repeat (first | exact nofz_none | refine nofz_upd ?_ rfl)) hr (by omega)) (by repeat (first | exact nofz_none | refine nofz_upd ?_ rfl)) ?_
  rintro lo3 hi3 r H' - - ⟨s2, hs2, rfl⟩
  simp -dsimp only [↓SD, SP, ↓reduceIte, Nat.reduceEqDiff, ini, frz, rdAo, rd3o, rd2o, rdpo, rd1o, fnv, intv, VOp.dst, getRo, solEo, solo, solo1, allsz, List.all_cons, List.all_nil, Bool.and_true, beq_self_eq_true, List.length_cons, List.length_nil, Nat.zero_add, srcv, Nat.le_refl, List.take_succ_cons, List.take_zero, and_self, if_true, Nat.reduceAdd, Nat.reduceLT, eq_self, mkR_2]
  refine ⟨s, s2, rfl, ?_, hs2⟩
  have : ∀ s ∈ ([⟨#[97]⟩, ⟨#[100]⟩, ⟨#[103]⟩, ⟨#[103, 47, 104]⟩, ⟨#[100, 47, 101]⟩, ⟨#[]⟩, ⟨#[97, 97]⟩] : List ByteArray), s.size ≤ 100 := by decide
  exact this s hs
end Go.AVM
