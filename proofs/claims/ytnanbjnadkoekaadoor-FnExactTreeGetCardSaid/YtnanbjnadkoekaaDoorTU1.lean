/- Laws with a text among the arguments; what TreeUnder gives, marked. -/
import Derived.Test.YtnanbjnadkoekaaDoorTT4
import Derived.Test.YtnanbjnadkoekaaDoorMT
import Derived.Test.YtnanbjnadkoekaaDoorMH
set_option linter.unusedSimpArgs false
set_option linter.unusedVariables false
namespace Go.AVM
theorem g_szNeg {P : Program} {f s fT : Nat} (hk : chkFn P f (gSz s fT) = true) {α : Type} (e : α → AV) (xs : List α) (k : Int) (h1 : k < 0) (h2 : -9223372036854775808 ≤ k - xs.length) : OK P f [lv e xs, .int .i64 k] (fun _ _ r => r = .int .i64 (-1)) := by
  refine fn_ok hk rfl ?_
  generalize OK P = L at *
  intro lo
  simp -dsimp only [↓SD, SP, ↓reduceIte, Nat.reduceEqDiff, ini, frz, rdAo, rd3o, rd2o, rdpo, rd1o, fnv, intv, VOp.dst, getRo, solEo, solo, solo1, allsz, List.all_cons, List.all_nil, Bool.and_true, beq_self_eq_true, List.length_cons, List.length_nil, Nat.zero_add, srcv, Nat.le_refl, List.take_succ_cons, List.take_zero, and_self, if_true, Nat.reduceAdd, Nat.reduceLT, eq_self, gSz, l_lv, wrap64 (k - xs.length) (by omega), show k - (xs.length : Int) < 0 by omega]
theorem files_neg (xs : List FileL) (k : Int) (h1 : k < 0) (h2 : -9223372036854775808 ≤ k - xs.length) : OK Go.Proofs.Tryd.prog 17 [filesV xs, .int .i64 k] (fun _ _ r => r = .int .i64 (-1)) :=
  g_szNeg (f := 17) (s := 2) (fT := 34) k17 fileV xs k h1 h2
theorem under_le (t : List FileL) (p : ByteArray) (ht : okFs t) : (underL t p).length ≤ 1000000 := by
  have := under_len t p
  have := ht.1
  omega
theorem n_specTreeUnder (t : List FileL) (p : ByteArray) (ht : okFs t) (hp : p.size ≤ 1000000) : OK Go.Proofs.Tryd.prog 22 [filesV t, .str p] (fun lo hi r => New (strs (underL t p)) lo hi r) :=
  (s_specTreeUnder t p ht hp).weak fun _ _ _ h => h.new
theorem n_implTreeUnder (t : List FileL) (p : ByteArray) (ht : okFs t) (hp : p.size ≤ 1000000) : OK Go.Proofs.Tryd.prog 23 [filesV t, .str p] (fun lo hi r => ResR Go.Proofs.Tryd.prog 26 27 (strs (underL t p)) lo hi r) :=
  (s_implTreeUnder t p ht hp).weak fun _ _ _ h => ⟨h.new, h.mark (under_le t p ht)⟩
end Go.AVM
