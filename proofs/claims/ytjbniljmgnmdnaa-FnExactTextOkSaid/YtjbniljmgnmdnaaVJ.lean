/- The values that the abstract machine's operations give, at integers of 64 bits, strings and lists of plain elements. -/
import Derived.Test.YtjbniljmgnmdnaaVI
namespace Go.AVM
set_option linter.unusedSimpArgs false
set_option linter.unusedVariables false

abbrev i64 (n : Int) : AV := .int .i64 n
def fits (n : Int) : Prop := -9223372036854775808 ≤ n ∧ n ≤ 9223372036854775807
theorem wrap64 (n : Int) (h : -9223372036854775808 ≤ n ∧ n ≤ 9223372036854775807) : IntKind.wrap .i64 n = n := by
  simp only [IntKind.wrap, IntKind.signed, IntKind.bits]
  simp
  omega
/-- a list of strings, of plain values -/
def strs (xs : List ByteArray) : AV := .lsl none xs.length (xs.map .str)
theorem data_inj {a b : ByteArray} : (a.toList == b.toList) = decide (a = b) := by
  rw [Go.ByteArray.toList_eq, Go.ByteArray.toList_eq]
  by_cases h : a = b
  · simp [h]
  · rw [decide_eq_false h, beq_eq_false_iff_ne]
    intro e
    exact h (by cases a; cases b; simpa using e)

theorem v_add (a b : Int) : binv .add (.int .i64 a) (.int .i64 b) = some (.int .i64 (IntKind.wrap .i64 (a + b))) := by simp [binv]
theorem v_sub (a b : Int) : binv .sub (.int .i64 a) (.int .i64 b) = some (.int .i64 (IntKind.wrap .i64 (a - b))) := by simp [binv]
theorem v_mul (a b : Int) : binv .mul (.int .i64 a) (.int .i64 b) = some (.int .i64 (IntKind.wrap .i64 (a * b))) := by simp [binv]
theorem v_rem (k : IntKind) (a b : Int) (h : b ≠ 0) : binv .rem (.int k a) (.int k b) = some (.int k (a.tmod b)) := by simp [binv, h]
theorem v_quo (a b : Int) (h : b ≠ 0) : binv .quo (.int .i64 a) (.int .i64 b) = some (.int .i64 (IntKind.wrap .i64 (a.tdiv b))) := by simp [binv, h]
theorem v_eql (k : IntKind) (a b : Int) : binv .eql (.int k a) (.int k b) = some (.bool (decide (a = b))) := by simp [binv, BEq.beq]
theorem v_neq (k : IntKind) (a b : Int) : binv .neq (.int k a) (.int k b) = some (.bool (!decide (a = b))) := by simp [binv, bne, BEq.beq]
theorem v_lss (k : IntKind) (a b : Int) : binv .lss (.int k a) (.int k b) = some (.bool (decide (a < b))) := by simp [binv]
theorem v_leq (k : IntKind) (a b : Int) : binv .leq (.int k a) (.int k b) = some (.bool (decide (a ≤ b))) := by simp [binv]
theorem v_gtr (k : IntKind) (a b : Int) : binv .gtr (.int k a) (.int k b) = some (.bool (decide (b < a))) := by simp [binv]
theorem v_geq (k : IntKind) (a b : Int) : binv .geq (.int k a) (.int k b) = some (.bool (decide (b ≤ a))) := by simp [binv]
theorem v_seql (a b : ByteArray) : binv .eql (.str a) (.str b) = some (.bool (decide (a = b))) := by simp [binv, data_inj]
theorem v_sneq (a b : ByteArray) : binv .neq (.str a) (.str b) = some (.bool (!decide (a = b))) := by simp [binv, data_inj]
theorem e_beq (a b : Bool) : beqv false (.bool a) (.bool b) = some (.bool (a == b)) := Eq.trans rfl rfl
theorem e_bne (a b : Bool) : beqv true (.bool a) (.bool b) = some (.bool (!(a == b))) := Eq.trans rfl rfl
theorem l_str (s : ByteArray) : lenv true (.str s) = some s.size := Eq.trans rfl rfl
theorem l_lsl (t : Option (Nat × Nat)) (len : Nat) (xs : List AV) : lenv false (.lsl t len xs) = some len := Eq.trans rfl rfl
theorem l_own (d b s len : Nat) : lenv false (.own d b s len) = some len := Eq.trans rfl rfl
theorem l_emp : lenv false .emp = some 0 := Eq.trans rfl rfl
theorem l_strs (xs : List ByteArray) : lenv false (strs xs) = some xs.length := Eq.trans rfl rfl
theorem n_bool (b : Bool) : notv (.bool b) = some (.bool (!b)) := Eq.trans rfl rfl
theorem p_true (x y : AV) : pickv (.bool true) x y = some x := Eq.trans rfl rfl
theorem p_false (x y : AV) : pickv (.bool false) x y = some y := Eq.trans rfl rfl
theorem x_strs (xs : List ByteArray) (i : Nat) (h : i < xs.length) : idxAv 1 (strs xs) (.int .i64 i) = some (.lptr (.str xs[i])) := by
  simp [idxAv, strs, h, AV.sz]
theorem d_str (H : Hp) (s : ByteArray) : ldv H none (.lptr (.str s)) = some (.str s) := Eq.trans rfl rfl
theorem x_str (s : ByteArray) (i : Nat) (h : i < s.size) : idxv (.str s) (.int .i64 i) = some (.int .u8 (s[i]).toNat) := by
  have h' : i < s.data.size := h
  simp only [idxv, Int.toNat_natCast, Int.natCast_nonneg, if_true, Array.getElem?_eq_getElem h']
  rfl

theorem x_own (d b s len i : Nat) (h : i < len) : idxAv s (.own d b s len) (.int .i64 i) = some (.optr d b s i none) := by
  simp [idxAv, h]
theorem st_map {α : Type} (e : α → AV) {H : Hp} {d b s i : Nat} {ys : List α} {row ex : Bool} {x : α} {sz : Option Nat} (hH : H d = some ⟨b, s, ys.map e, false, row, ex⟩) (hi : i < ys.length)
    (h1 : fitsz sz (e x) = true) (h2 : sz = none → (e x).sz = 1) (h3 : (e x).sz = s) (h4 : solo H (e x) = some (e x, H)) :
    stv H sz (e x) (.optr d b s i none) = some (updH H d (some ⟨b, s, (ys.set i x).map e, false, row, ex⟩)) := by
  have h5 : (ys.map e)[i]? = some (e ys[i]) := by simp [hi]
  have h6 : (ys.map e).set i (e x) = (ys.set i x).map e := by simp
  simp only [stv]
  rw [if_pos ⟨by simp, h1, h2⟩, hH]
  cases row <;> simp only [Option.bind_some, reduceIte, h4, hH, h5, h3, h6, Bool.false_eq_true, if_false, if_true, and_self]
theorem st_str {H : Hp} {d b i : Nat} {ys : List ByteArray} {row ex : Bool} {x : ByteArray} (hH : H d = some ⟨b, 1, ys.map .str, false, row, ex⟩) (hi : i < ys.length) :
    stv H none (.str x) (.optr d b 1 i none) = some (updH H d (some ⟨b, 1, (ys.set i x).map .str, false, row, ex⟩)) :=
  st_map .str hH hi rfl (fun _ => rfl) rfl rfl
theorem set_take {α : Type} {xs : List α} {i m : Nat} {z : α} (hi : i < xs.length) : (xs.take i ++ List.replicate (m + 1) z).set i xs[i] = xs.take (i + 1) ++ List.replicate m z := by
  have hl : (xs.take i).length = i := by simp; omega
  rw [List.set_append_right _ _ (by omega), hl, Nat.sub_self, List.replicate_succ, List.set_cons_zero, List.take_succ_eq_append_getElem hi, List.append_assoc]
  rfl
theorem set_rep {α : Type} {xs : List α} {k m : Nat} {z y : α} : (xs ++ List.replicate k y ++ List.replicate (m + 1) z).set (xs.length + k) y = xs ++ List.replicate (k + 1) y ++ List.replicate m z := by
  rw [List.set_append_right _ _ (by simp), List.length_append, List.length_replicate, Nat.sub_self, List.replicate_succ, List.set_cons_zero, List.replicate_succ', List.append_assoc, List.append_assoc, List.append_assoc]
  rfl
theorem rd_strs (fl : Bool) (H : Hp) (xs : List ByteArray) : rd3o fl H (strs xs) = some (strs xs, []) := by
  have h : (xs.map AV.str).take xs.length = xs.map .str := List.take_of_length_le (by simp)
  cases fl <;> simp [strs, rd3o, rd2o, rdpo, rd1o, h]
theorem so_strs (H : Hp) (xs : List ByteArray) : solo H (strs xs) = some (strs xs, H) := rfl
end Go.AVM
