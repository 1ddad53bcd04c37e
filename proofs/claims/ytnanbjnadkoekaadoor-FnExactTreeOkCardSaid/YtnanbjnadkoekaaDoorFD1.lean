/- Marks: what the law's marking helpers give; lists of numbers. -/
import Derived.Test.YtnanbjnadkoekaaDoorVX
import Derived.Test.YtnanbjnadkoekaaDoorFC0
set_option linter.unusedSimpArgs false
set_option linter.unusedVariables false
namespace Go.AVM
abbrev iz (n : Int) : AV := .int .i64 n
def ints (xs : List Int) : AV := .lsl none xs.length (xs.map iz)
theorem l_ints (xs : List Int) : lenv false (ints xs) = some xs.length := Eq.trans rfl rfl
theorem x_ints (xs : List Int) (i : Nat) (h : i < xs.length) : idxAv 1 (ints xs) (.int .i64 i) = some (.lptr (iz xs[i])) := by
  simp [idxAv, ints, h, AV.sz]
theorem rd_ints (fl : Bool) (H : Hp) (xs : List Int) : rd3o fl H (ints xs) = some (ints xs, []) := by
  have h : (xs.map iz).take xs.length = xs.map iz := List.take_of_length_le (by simp)
  cases fl <;> simp [ints, rd3o, rd2o, rdpo, rd1o, h]
theorem pf_ints {fl : Bool} (xs : List Int) : Pf fl (ints xs) := .lsl _ _ (by simp) (by simp)
/-- markText's text -/
def dg (k : Nat) (out : ByteArray) : ByteArray := if k = 0 then out else dg (k / 10) (bytesOf [IntKind.wrap .u8 (48 + (k : Int).tmod 10)] ++ out)
termination_by k
def mtext (k : Nat) : ByteArray := ⟨#[109]⟩ ++ dg k ⟨#[]⟩
theorem dg_zero (out : ByteArray) : dg 0 out = out := by rw [dg, if_pos rfl]
theorem dg_pos {k : Nat} (h : 0 < k) (out : ByteArray) : dg k out = dg (k / 10) (bytesOf [IntKind.wrap .u8 (48 + (k : Int).tmod 10)] ++ out) := by rw [dg, if_neg (by omega)]
theorem size_app (a b : ByteArray) : (a ++ b).size = a.size + b.size := by simp
theorem v_sadd (a b : ByteArray) (h : a.size + b.size ≤ 9223372036854775807) : binv .add (.str a) (.str b) = some (.str (a ++ b)) := by
  simp [binv, h]
theorem b2s_one (H : Hp) (d b : Nat) (n : Int) (row ex : Bool) (h : H d = some ⟨b, 1, [.int .u8 n], false, row, ex⟩) : b2sv H (.own d b 1 1) = some (.str (bytesOf [n])) := by
  simp [b2sv, h, u8s]
theorem s_markText (k : Nat) (h0 : 0 < k) (hk : k ≤ 4000000000000000000) : OK Go.Proofs.Tryd.prog 59 [.int .i64 k] (fun _ _ r => r = .str (mtext k)) := by
  refine fn_ok k59 rfl ?_
  generalize OK Go.Proofs.Tryd.prog = L
  intro lo
  simp -dsimp only [↓SD, SP, ↓reduceIte, Nat.reduceEqDiff, ini, frz, rdAo, rd3o, rd2o, rdpo, rd1o, fnv, intv, VOp.dst, getRo, solEo, solo, solo1, allsz, List.all_cons, List.all_nil, Bool.and_true, beq_self_eq_true, List.length_cons, List.length_nil, Nat.zero_add, srcv, Nat.le_refl, List.take_succ_cons, List.take_zero, and_self, if_true, Nat.reduceAdd, Nat.reduceLT, eq_self, c59, show ¬ (k : Int) ≤ 0 by omega]
  refine loop_rule (fun m E H n => ∃ (q : Nat) (out : ByteArray), q ≤ m ∧ E 0 = .int .i64 q ∧ E 3 = .str out ∧ out.size + q ≤ k ∧ dg q out = dg k ⟨#[]⟩)
    (fun e E H n => e = .exit 0 ∧ ∃ out : ByteArray, E 3 = .str out ∧ out.size ≤ k ∧ out = dg k ⟨#[]⟩) k ⟨k, ⟨#[]⟩, Nat.le_refl _, rfl, rfl, by simp [ByteArray.size], rfl⟩ ?_ ?_
  · rintro e E H n ⟨rfl, out, h3, hs, rfl⟩
    simp -dsimp only [↓SD, SP, ↓reduceIte, Nat.reduceEqDiff, ini, frz, rdAo, rd3o, rd2o, rdpo, rd1o, fnv, intv, VOp.dst, getRo, solEo, solo, solo1, allsz, List.all_cons, List.all_nil, Bool.and_true, beq_self_eq_true, List.length_cons, List.length_nil, Nat.zero_add, srcv, Nat.le_refl, List.take_succ_cons, List.take_zero, and_self, if_true, Nat.reduceAdd, Nat.reduceLT, eq_self, h3, v_sadd _ _ (show ByteArray.size ⟨#[109]⟩ + (dg k ⟨#[]⟩).size ≤ 9223372036854775807 by simp only [ByteArray.size, List.size_toArray, List.length_cons, List.length_nil] at hs ⊢; omega)]
    rfl
  · rintro m E H n Q K ⟨q, out, hqm, h0', h3, hs, hd⟩ hQ hK
    by_cases hq : (0 : Int) < q
    · have hb : (bytesOf [IntKind.wrap .u8 (48 + (q : Int).tmod 10)]).size = 1 := rfl
      have hm10 : (q : Int).tmod 10 = ((q % 10 : Nat) : Int) := by rw [Int.tmod_eq_emod_of_nonneg (by omega)]; rfl
      have hq10 : (q : Int).tdiv 10 = ((q / 10 : Nat) : Int) := by rw [Int.tdiv_eq_ediv_of_nonneg (by omega)]; rfl
      have hlt : q / 10 < q := Nat.div_lt_self (by omega) (by omega)
      simp -dsimp only [↓SD, SP, ↓reduceIte, Nat.reduceEqDiff, ini, frz, rdAo, rd3o, rd2o, rdpo, rd1o, fnv, intv, VOp.dst, getRo, solEo, solo, solo1, allsz, List.all_cons, List.all_nil, Bool.and_true, beq_self_eq_true, List.length_cons, List.length_nil, Nat.zero_add, srcv, Nat.le_refl, List.take_succ_cons, List.take_zero, and_self, if_true, Nat.reduceAdd, Nat.reduceLT, eq_self, h0', h3, hq, v_rem .i64 (q : Int) 10 (by decide), wrap64 (48 + (q : Int).tmod 10) (by omega), convv]
      refine bal_mk fun b hb' => ?_
      simp -dsimp only [↓SD, SP, ↓reduceIte, Nat.reduceEqDiff, ini, frz, rdAo, rd3o, rd2o, rdpo, rd1o, fnv, intv, VOp.dst, getRo, solEo, solo, solo1, allsz, List.all_cons, List.all_nil, Bool.and_true, beq_self_eq_true, List.length_cons, List.length_nil, Nat.zero_add, srcv, Nat.le_refl, List.take_succ_cons, List.take_zero, and_self, if_true, Nat.reduceAdd, Nat.reduceLT, eq_self, b2sv, reduceIte, u8s, h3, v_sadd _ _ (show (bytesOf [IntKind.wrap .u8 (48 + (q : Int).tmod 10)]).size + out.size ≤ 9223372036854775807 by omega), h0', v_quo (q : Int) 10 (by decide), hq10, wrap64 ((q / 10 : Nat) : Int) (by omega)]
      refine hK (m - 1) _ _ _ (by omega) ⟨q / 10, bytesOf [IntKind.wrap .u8 (48 + (q : Int).tmod 10)] ++ out, by omega, ?_, ?_, by rw [size_app]; omega, by rw [← hd]; exact (dg_pos (by omega) _).symm⟩
      · simp -dsimp only [↓SD, SP, ↓reduceIte, Nat.reduceEqDiff, ini, frz, rdAo, rd3o, rd2o, rdpo, rd1o, fnv, intv, VOp.dst, getRo, solEo, solo, solo1, allsz, List.all_cons, List.all_nil, Bool.and_true, beq_self_eq_true, List.length_cons, List.length_nil, Nat.zero_add, srcv, Nat.le_refl, List.take_succ_cons, List.take_zero, and_self, if_true, Nat.reduceAdd, Nat.reduceLT, eq_self]
      · simp -dsimp only [↓SD, SP, ↓reduceIte, Nat.reduceEqDiff, ini, frz, rdAo, rd3o, rd2o, rdpo, rd1o, fnv, intv, VOp.dst, getRo, solEo, solo, solo1, allsz, List.all_cons, List.all_nil, Bool.and_true, beq_self_eq_true, List.length_cons, List.length_nil, Nat.zero_add, srcv, Nat.le_refl, List.take_succ_cons, List.take_zero, and_self, if_true, Nat.reduceAdd, Nat.reduceLT, eq_self]
    · obtain rfl : q = 0 := by omega
      simp -dsimp only [↓SD, SP, ↓reduceIte, Nat.reduceEqDiff, ini, frz, rdAo, rd3o, rd2o, rdpo, rd1o, fnv, intv, VOp.dst, getRo, solEo, solo, solo1, allsz, List.all_cons, List.all_nil, Bool.and_true, beq_self_eq_true, List.length_cons, List.length_nil, Nat.zero_add, srcv, Nat.le_refl, List.take_succ_cons, List.take_zero, and_self, if_true, Nat.reduceAdd, Nat.reduceLT, eq_self, h0', hq]
      exact hQ _ _ _ _ ⟨rfl, out, h3, by omega, by rw [← hd, dg_zero]⟩
/-- n texts, from k on -/
def mks (k : Nat) : Nat → List ByteArray
  | 0 => []
  | n + 1 => mtext k :: mks (k + 1) n
def mki (k : Nat) : Nat → List Int
  | 0 => []
  | n + 1 => (k : Int) :: mki (k + 1) n
theorem mks_len (k n : Nat) : (mks k n).length = n := by
  induction n generalizing k with
  | zero => rfl
  | succ n ih => simp [mks, ih]
theorem mki_len (k n : Nat) : (mki k n).length = n := by
  induction n generalizing k with
  | zero => rfl
  | succ n ih => simp [mki, ih]
theorem mks_snoc (k n : Nat) : mks k (n + 1) = mks k n ++ [mtext (k + n)] := by
  induction n generalizing k with
  | zero => rfl
  | succ n ih =>
    rw [mks, ih]
    simp [mks, Nat.add_assoc, Nat.add_comm 1]
theorem mki_snoc (k n : Nat) : mki k (n + 1) = mki k n ++ [((k + n : Nat) : Int)] := by
  induction n generalizing k with
  | zero => rfl
  | succ n ih =>
    rw [mki, ih]
    simp [mki, Nat.add_assoc, Nat.add_comm 1]
/-- the marks' texts and numbers, written over the first n elements -/
theorem set_over {α : Type} (ys : List α) (xs : List α) (y : α) (h : ys.length < xs.length) : (ys ++ xs.drop ys.length).set ys.length y = (ys ++ [y]) ++ xs.drop (ys.length + 1) := by
  rw [List.set_append_right _ _ (Nat.le_refl _), Nat.sub_self, List.drop_eq_getElem_cons h, List.set_cons_zero, List.append_assoc]
  rfl
theorem stv_s (H : Hp) (v : AV) (d b i : Nat) (xs : List AV) (ex : Bool) (hH : H d = some ⟨b, 1, xs, false, false, ex⟩) (hv : v.isAgg = false ∧ v.sz = 1) (hi : i < xs.length) :
    stv H none v (.optr d b 1 i none) = some (updH H d (some ⟨b, 1, xs.set i v, false, false, ex⟩)) :=
  stv_n H none v d b 1 i xs ex hH ⟨by rw [fz_none, hv.1]; rfl, fun _ => hv.2⟩ hv.2 hi
theorem updH_updH (H : Hp) (d : Nat) (u v : Option Blk) : updH (updH H d u) d v = updH H d v := by
  funext q
  rw [updH_at, updH_at, updH_at]
  by_cases h : q = d
  · rw [if_pos h, if_pos h]
  · rw [if_neg h, if_neg h, if_neg h]
theorem updH_self {H : Hp} {d : Nat} {k : Blk} (h : H d = some k) : updH H d (some k) = H := by
  funext q
  rw [updH_at]
  by_cases hq : q = d
  · rw [if_pos hq, hq, h]
  · rw [if_neg hq]
/-- one more of a row's elements is written -/
theorem st_over {H0 : Hp} {d b i : Nat} {ys xs : List AV} {v : AV} (hy : ys.length = i) (hi : i < xs.length) (hv : v.isAgg = false ∧ v.sz = 1) :
    stv (updH H0 d (some ⟨b, 1, ys ++ xs.drop i, false, false, false⟩)) none v (.optr d b 1 i none) = some (updH H0 d (some ⟨b, 1, (ys ++ [v]) ++ xs.drop (i + 1), false, false, false⟩)) := by
  subst hy
  rw [stv_s _ v d b ys.length _ false (by rw [updH_at, if_pos rfl]) hv (by simp; omega), set_over ys xs v hi, updH_updH]
theorem s_markStringS (d b n k : Nat) (xs : List AV) (H0 : Hp) (hH0 : H0 d = some ⟨b, 1, xs, false, false, false⟩) (hn : n ≤ xs.length) (h0 : 0 < k) (hk : k + n ≤ 4000000000000000000) :
    OKM Go.Proofs.Tryd.prog 26 [.own d b 1 n, .int .i64 k] H0 (fun _ _ r H' => r = .int .i64 (k + n : Nat) ∧ H' = updH H0 d (some ⟨b, 1, (mks k n).map .str ++ xs.drop n, false, false, false⟩)) := by
  refine fn_okM k26 rfl ?_
  have ht := fun k h0 hk => s_markText k h0 hk
  generalize OK Go.Proofs.Tryd.prog = L at *
  intro lo hlo
  simp -dsimp only [↓SD, SP, ↓reduceIte, Nat.reduceEqDiff, ini, frz, rdAo, rd3o, rd2o, rdpo, rd1o, fnv, intv, VOp.dst, getRo, solEo, solo, solo1, allsz, List.all_cons, List.all_nil, Bool.and_true, beq_self_eq_true, List.length_cons, List.length_nil, Nat.zero_add, srcv, Nat.le_refl, List.take_succ_cons, List.take_zero, and_self, if_true, Nat.reduceAdd, Nat.reduceLT, eq_self, c26]
  refine loop_rule (fun m E H _ => ∃ i : Nat, m + i = n ∧ E 0 = .own d b 1 n ∧ E 1 = .int .i64 (k + i : Nat) ∧ E 5 = .int .i64 i ∧ H = updH H0 d (some ⟨b, 1, (mks k i).map .str ++ xs.drop i, false, false, false⟩))
    (fun e E H _ => e = .exit 0 ∧ E 1 = .int .i64 (k + n : Nat) ∧ H = updH H0 d (some ⟨b, 1, (mks k n).map .str ++ xs.drop n, false, false, false⟩)) n ⟨0, rfl, rfl, rfl, rfl, ?_⟩ ?_ ?_
  · exact (updH_self hH0).symm
  · rintro e E H n' ⟨rfl, h1, rfl⟩
    simp -dsimp only [↓SD, SP, ↓reduceIte, Nat.reduceEqDiff, ini, frz, rdAo, rd3o, rd2o, rdpo, rd1o, fnv, intv, VOp.dst, getRo, solEo, solo, solo1, allsz, List.all_cons, List.all_nil, Bool.and_true, beq_self_eq_true, List.length_cons, List.length_nil, Nat.zero_add, srcv, Nat.le_refl, List.take_succ_cons, List.take_zero, and_self, if_true, Nat.reduceAdd, Nat.reduceLT, eq_self, h1, noTup]
  · rintro m E H n' Q K ⟨i, hm, h0', h1, h5, rfl⟩ hQ hK
    by_cases hi : i < n
    · simp -dsimp only [↓SD, SP, ↓reduceIte, Nat.reduceEqDiff, ini, frz, rdAo, rd3o, rd2o, rdpo, rd1o, fnv, intv, VOp.dst, getRo, solEo, solo, solo1, allsz, List.all_cons, List.all_nil, Bool.and_true, beq_self_eq_true, List.length_cons, List.length_nil, Nat.zero_add, srcv, Nat.le_refl, List.take_succ_cons, List.take_zero, and_self, if_true, Nat.reduceAdd, Nat.reduceLT, eq_self, h0', h1, h5, Int.ofNat_lt, hi, ↓r_any]
      refine call_rule (ht (k + i) (by omega) (by omega)) ?_
      rintro lo1 hi1 r - - rfl
      have hst := st_over (H0 := H0) (d := d) (b := b) (ys := (mks k i).map .str) (v := .str (mtext (k + i))) (by simp [mks_len]) (show i < xs.length by omega) ⟨rfl, rfl⟩
      simp -dsimp only [↓SD, SP, ↓reduceIte, Nat.reduceEqDiff, ini, frz, rdAo, rd3o, rd2o, rdpo, rd1o, fnv, intv, VOp.dst, getRo, solEo, solo, solo1, allsz, List.all_cons, List.all_nil, Bool.and_true, beq_self_eq_true, List.length_cons, List.length_nil, Nat.zero_add, srcv, Nat.le_refl, List.take_succ_cons, List.take_zero, and_self, if_true, Nat.reduceAdd, Nat.reduceLT, eq_self, ↓r_any, h1, h5, x_own d b 1 n i hi, hst, wrap64 (((k + i : Nat) : Int) + 1) (by omega), wrap64 ((i : Int) + 1) (by omega)]
      refine hK (m - 1) _ _ _ (by omega) ⟨i + 1, by omega, ?_, ?_, ?_, ?_⟩
      · simp -dsimp only [↓SD, SP, ↓reduceIte, Nat.reduceEqDiff, ini, frz, rdAo, rd3o, rd2o, rdpo, rd1o, fnv, intv, VOp.dst, getRo, solEo, solo, solo1, allsz, List.all_cons, List.all_nil, Bool.and_true, beq_self_eq_true, List.length_cons, List.length_nil, Nat.zero_add, srcv, Nat.le_refl, List.take_succ_cons, List.take_zero, and_self, if_true, Nat.reduceAdd, Nat.reduceLT, eq_self, h0']
      · simp -dsimp only [↓SD, SP, ↓reduceIte, Nat.reduceEqDiff, ini, frz, rdAo, rd3o, rd2o, rdpo, rd1o, fnv, intv, VOp.dst, getRo, solEo, solo, solo1, allsz, List.all_cons, List.all_nil, Bool.and_true, beq_self_eq_true, List.length_cons, List.length_nil, Nat.zero_add, srcv, Nat.le_refl, List.take_succ_cons, List.take_zero, and_self, if_true, Nat.reduceAdd, Nat.reduceLT, eq_self, show ((k + i : Nat) : Int) + 1 = ((k + (i + 1) : Nat) : Int) by omega]
      · simp -dsimp only [↓SD, SP, ↓reduceIte, Nat.reduceEqDiff, ini, frz, rdAo, rd3o, rd2o, rdpo, rd1o, fnv, intv, VOp.dst, getRo, solEo, solo, solo1, allsz, List.all_cons, List.all_nil, Bool.and_true, beq_self_eq_true, List.length_cons, List.length_nil, Nat.zero_add, srcv, Nat.le_refl, List.take_succ_cons, List.take_zero, and_self, if_true, Nat.reduceAdd, Nat.reduceLT, eq_self, Int.natCast_add, Int.natCast_one]
      · rw [mks_snoc, List.map_append]
        rfl
    · simp -dsimp only [↓SD, SP, ↓reduceIte, Nat.reduceEqDiff, ini, frz, rdAo, rd3o, rd2o, rdpo, rd1o, fnv, intv, VOp.dst, getRo, solEo, solo, solo1, allsz, List.all_cons, List.all_nil, Bool.and_true, beq_self_eq_true, List.length_cons, List.length_nil, Nat.zero_add, srcv, Nat.le_refl, List.take_succ_cons, List.take_zero, and_self, if_true, Nat.reduceAdd, Nat.reduceLT, eq_self, h0', h5, Int.ofNat_lt, hi]
      obtain rfl : i = n := by omega
      exact hQ _ _ _ _ ⟨rfl, h1, rfl⟩
theorem mks_get (k n i : Nat) (h : i < n) (rest : List AV) : ((mks k n).map AV.str ++ rest)[i]? = some (.str (mtext (k + i))) := by
  rw [List.getElem?_append_left (by simpa [mks_len] using h), List.getElem?_map]
  induction n generalizing k i with
  | zero => omega
  | succ n ih =>
    cases i with
    | zero => rfl
    | succ i =>
      have := ih (k + 1) i (by omega)
      simp only [mks, List.getElem?_cons_succ]
      rw [this, show k + 1 + i = k + (i + 1) by omega]
theorem mki_get (k n i : Nat) (h : i < n) (rest : List AV) : ((mki k n).map iz ++ rest)[i]? = some (.int .i64 (k + i : Nat)) := by
  rw [List.getElem?_append_left (by simpa [mki_len] using h), List.getElem?_map]
  induction n generalizing k i with
  | zero => omega
  | succ n ih =>
    cases i with
    | zero => rfl
    | succ i =>
      have := ih (k + 1) i (by omega)
      simp only [mki, List.getElem?_cons_succ]
      rw [this, show k + 1 + i = k + (i + 1) by omega]
theorem ld_row {H : Hp} {d b i : Nat} {xs : List AV} {fz row ex : Bool} {v : AV} (hH : H d = some ⟨b, 1, xs, fz, row, ex⟩) (hi : xs[i]? = some v) (hv : v.isAgg = false) : ldv H none (.optr d b 1 i none) = some v := by
  rw [ldv_n, hH]
  simp [hi, fz_none, hv]
theorem s_heldStringS (d b n k : Nat) (rest : List AV) (H0 : Hp) (hH0 : H0 d = some ⟨b, 1, (mks k n).map .str ++ rest, false, false, false⟩) (h0 : 0 < k) (hk : k + n ≤ 4000000000000000000) :
    OKM Go.Proofs.Tryd.prog 27 [.own d b 1 n, .int .i64 k] H0 (fun _ _ r H' => r = .int .i64 (k + n : Nat) ∧ H' = H0) := by
  refine fn_okM k27 rfl ?_
  have ht := fun k h0 hk => s_markText k h0 hk
  generalize OK Go.Proofs.Tryd.prog = L at *
  intro lo hlo
  simp -dsimp only [↓SD, SP, ↓reduceIte, Nat.reduceEqDiff, ini, frz, rdAo, rd3o, rd2o, rdpo, rd1o, fnv, intv, VOp.dst, getRo, solEo, solo, solo1, allsz, List.all_cons, List.all_nil, Bool.and_true, beq_self_eq_true, List.length_cons, List.length_nil, Nat.zero_add, srcv, Nat.le_refl, List.take_succ_cons, List.take_zero, and_self, if_true, Nat.reduceAdd, Nat.reduceLT, eq_self, c27]
  refine loop_rule (fun m E H _ => ∃ i : Nat, m + i = n ∧ E 0 = .own d b 1 n ∧ E 1 = .int .i64 (k + i : Nat) ∧ E 5 = .int .i64 i ∧ H = H0)
    (fun e E H _ => e = .exit 0 ∧ E 1 = .int .i64 (k + n : Nat) ∧ H = H0) n ⟨0, rfl, rfl, rfl, rfl, rfl⟩ ?_ ?_
  · rintro e E H n' ⟨rfl, h1, rfl⟩
    simp -dsimp only [↓SD, SP, ↓reduceIte, Nat.reduceEqDiff, ini, frz, rdAo, rd3o, rd2o, rdpo, rd1o, fnv, intv, VOp.dst, getRo, solEo, solo, solo1, allsz, List.all_cons, List.all_nil, Bool.and_true, beq_self_eq_true, List.length_cons, List.length_nil, Nat.zero_add, srcv, Nat.le_refl, List.take_succ_cons, List.take_zero, and_self, if_true, Nat.reduceAdd, Nat.reduceLT, eq_self, h1, noTup]
  · rintro m E H n' Q K ⟨i, hm, h0', h1, h5, rfl⟩ hQ hK
    by_cases hi : i < n
    · have hld := ld_row hH0 (mks_get k n i hi rest) rfl
      simp -dsimp only [↓SD, SP, ↓reduceIte, Nat.reduceEqDiff, ini, frz, rdAo, rd3o, rd2o, rdpo, rd1o, fnv, intv, VOp.dst, getRo, solEo, solo, solo1, allsz, List.all_cons, List.all_nil, Bool.and_true, beq_self_eq_true, List.length_cons, List.length_nil, Nat.zero_add, srcv, Nat.le_refl, List.take_succ_cons, List.take_zero, and_self, if_true, Nat.reduceAdd, Nat.reduceLT, eq_self, h0', h1, h5, Int.ofNat_lt, hi, x_own d b 1 n i hi, hld, ↓r_any]
      refine call_rule (ht (k + i) (by omega) (by omega)) ?_
      rintro lo1 hi1 r - - rfl
      simp -dsimp only [↓SD, SP, ↓reduceIte, Nat.reduceEqDiff, ini, frz, rdAo, rd3o, rd2o, rdpo, rd1o, fnv, intv, VOp.dst, getRo, solEo, solo, solo1, allsz, List.all_cons, List.all_nil, Bool.and_true, beq_self_eq_true, List.length_cons, List.length_nil, Nat.zero_add, srcv, Nat.le_refl, List.take_succ_cons, List.take_zero, and_self, if_true, Nat.reduceAdd, Nat.reduceLT, eq_self, ↓r_any, h1, h5, wrap64 (((k + i : Nat) : Int) + 1) (by omega), wrap64 ((i : Int) + 1) (by omega)]
      refine hK (m - 1) _ _ _ (by omega) ⟨i + 1, by omega, ?_, ?_, ?_, rfl⟩
      · simp -dsimp only [↓SD, SP, ↓reduceIte, Nat.reduceEqDiff, ini, frz, rdAo, rd3o, rd2o, rdpo, rd1o, fnv, intv, VOp.dst, getRo, solEo, solo, solo1, allsz, List.all_cons, List.all_nil, Bool.and_true, beq_self_eq_true, List.length_cons, List.length_nil, Nat.zero_add, srcv, Nat.le_refl, List.take_succ_cons, List.take_zero, and_self, if_true, Nat.reduceAdd, Nat.reduceLT, eq_self, h0']
      · simp -dsimp only [↓SD, SP, ↓reduceIte, Nat.reduceEqDiff, ini, frz, rdAo, rd3o, rd2o, rdpo, rd1o, fnv, intv, VOp.dst, getRo, solEo, solo, solo1, allsz, List.all_cons, List.all_nil, Bool.and_true, beq_self_eq_true, List.length_cons, List.length_nil, Nat.zero_add, srcv, Nat.le_refl, List.take_succ_cons, List.take_zero, and_self, if_true, Nat.reduceAdd, Nat.reduceLT, eq_self, show ((k + i : Nat) : Int) + 1 = ((k + (i + 1) : Nat) : Int) by omega]
      · simp -dsimp only [↓SD, SP, ↓reduceIte, Nat.reduceEqDiff, ini, frz, rdAo, rd3o, rd2o, rdpo, rd1o, fnv, intv, VOp.dst, getRo, solEo, solo, solo1, allsz, List.all_cons, List.all_nil, Bool.and_true, beq_self_eq_true, List.length_cons, List.length_nil, Nat.zero_add, srcv, Nat.le_refl, List.take_succ_cons, List.take_zero, and_self, if_true, Nat.reduceAdd, Nat.reduceLT, eq_self, Int.natCast_add, Int.natCast_one]
    · simp -dsimp only [↓SD, SP, ↓reduceIte, Nat.reduceEqDiff, ini, frz, rdAo, rd3o, rd2o, rdpo, rd1o, fnv, intv, VOp.dst, getRo, solEo, solo, solo1, allsz, List.all_cons, List.all_nil, Bool.and_true, beq_self_eq_true, List.length_cons, List.length_nil, Nat.zero_add, srcv, Nat.le_refl, List.take_succ_cons, List.take_zero, and_self, if_true, Nat.reduceAdd, Nat.reduceLT, eq_self, h0', h5, Int.ofNat_lt, hi]
      obtain rfl : i = n := by omega
      exact hQ _ _ _ _ ⟨rfl, h1, rfl⟩
end Go.AVM
