/- The values that the abstract machine's operations give, at integers of 64 bits, strings and lists of plain elements. -/
import Derived.Test.YtnanbjnadkoekaaDoorVI
namespace Go.AVM
set_option linter.unusedSimpArgs false
set_option linter.unusedVariables false

abbrev i64 (n : Int) : AV := .int .i64 n
def fits (n : Int) : Prop := -9223372036854775808 ≤ n ∧ n ≤ 9223372036854775807
theorem wrap64 (n : Int) (h : -9223372036854775808 ≤ n ∧ n ≤ 9223372036854775807) : IntKind.wrap .i64 n = n := by
  simp only [IntKind.wrap, IntKind.signed, IntKind.bits]
  simp
  omega
/-- a list of strings, of plain values -/
def strs (xs : List ByteArray) : AV := .lsl none xs.length (xs.map .str)
theorem data_inj {a b : ByteArray} : (a.toList == b.toList) = decide (a = b) := by
  rw [Go.ByteArray.toList_eq, Go.ByteArray.toList_eq]
  by_cases h : a = b
  · simp [h]
  · rw [decide_eq_false h, beq_eq_false_iff_ne]
    intro e
    exact h (by cases a; cases b; simpa using e)

theorem v_add (a b : Int) : binv .add (.int .i64 a) (.int .i64 b) = some (.int .i64 (IntKind.wrap .i64 (a + b))) := by simp [binv]
theorem v_sub (a b : Int) : binv .sub (.int .i64 a) (.int .i64 b) = some (.int .i64 (IntKind.wrap .i64 (a - b))) := by simp [binv]
theorem v_mul (a b : Int) : binv .mul (.int .i64 a) (.int .i64 b) = some (.int .i64 (IntKind.wrap .i64 (a * b))) := by simp [binv]
theorem v_rem (k : IntKind) (a b : Int) (h : b ≠ 0) : binv .rem (.int k a) (.int k b) = some (.int k (a.tmod b)) := by simp [binv, h]
theorem v_quo (a b : Int) (h : b ≠ 0) : binv .quo (.int .i64 a) (.int .i64 b) = some (.int .i64 (IntKind.wrap .i64 (a.tdiv b))) := by simp [binv, h]
theorem v_eql (k : IntKind) (a b : Int) : binv .eql (.int k a) (.int k b) = some (.bool (decide (a = b))) := by simp [binv, BEq.beq]
theorem v_neq (k : IntKind) (a b : Int) : binv .neq (.int k a) (.int k b) = some (.bool (!decide (a = b))) := by simp [binv, bne, BEq.beq]
theorem v_lss (k : IntKind) (a b : Int) : binv .lss (.int k a) (.int k b) = some (.bool (decide (a < b))) := by simp [binv]
theorem v_leq (k : IntKind) (a b : Int) : binv .leq (.int k a) (.int k b) = some (.bool (decide (a ≤ b))) := by simp [binv]
theorem v_gtr (k : IntKind) (a b : Int) : binv .gtr (.int k a) (.int k b) = some (.bool (decide (b < a))) := by simp [binv]
theorem v_geq (k : IntKind) (a b : Int) : binv .geq (.int k a) (.int k b) = some (.bool (decide (b ≤ a))) := by simp [binv]
theorem v_seql (a b : ByteArray) : binv .eql (.str a) (.str b) = some (.bool (decide (a = b))) := by simp [binv, data_inj]
theorem v_sneq (a b : ByteArray) : binv .neq (.str a) (.str b) = some (.bool (!decide (a = b))) := by simp [binv, data_inj]
theorem e_beq (a b : Bool) : beqv false (.bool a) (.bool b) = some (.bool (a == b)) := Eq.trans rfl rfl
theorem e_bne (a b : Bool) : beqv true (.bool a) (.bool b) = some (.bool (!(a == b))) := Eq.trans rfl rfl
theorem l_str (s : ByteArray) : lenv true (.str s) = some s.size := Eq.trans rfl rfl
theorem l_lsl (t : Option (Nat × Nat)) (len : Nat) (xs : List AV) : lenv false (.lsl t len xs) = some len := Eq.trans rfl rfl
theorem l_own (d b s len : Nat) : lenv false (.own d b s len) = some len := Eq.trans rfl rfl
theorem l_emp : lenv false .emp = some 0 := Eq.trans rfl rfl
theorem l_strs (xs : List ByteArray) : lenv false (strs xs) = some xs.length := Eq.trans rfl rfl
theorem n_bool (b : Bool) : notv (.bool b) = some (.bool (!b)) := Eq.trans rfl rfl
theorem p_true (x y : AV) : pickv (.bool true) x y = some x := Eq.trans rfl rfl
theorem p_false (x y : AV) : pickv (.bool false) x y = some y := Eq.trans rfl rfl
theorem x_strs (xs : List ByteArray) (i : Nat) (h : i < xs.length) : idxAv 1 (strs xs) (.int .i64 i) = some (.lptr (.str xs[i])) := by
  simp [idxAv, strs, h, AV.sz]
theorem d_str (H : Hp) (s : ByteArray) : ldv H none (.lptr (.str s)) = some (.str s) := Eq.trans rfl rfl
theorem x_str (s : ByteArray) (i : Nat) (h : i < s.size) : idxv (.str s) (.int .i64 i) = some (.int .u8 (s[i]).toNat) := by
  have h' : i < s.data.size := h
  simp only [idxv, Int.toNat_natCast, Int.natCast_nonneg, if_true, Array.getElem?_eq_getElem h']
  rfl

theorem x_own (d b s len i : Nat) (h : i < len) : idxAv s (.own d b s len) (.int .i64 i) = some (.optr d b s i none) := by
  simp [idxAv, h]
theorem st_map {α : Type} (e : α → AV) {H : Hp} {d b s i : Nat} {ys : List α} {row ex : Bool} {x : α} {sz : Option Nat} (hH : H d = some ⟨b, s, ys.map e, false, row, ex⟩) (hi : i < ys.length)
    (h1 : fitsz sz (e x) = true) (h2 : sz = none → (e x).sz = 1) (h3 : (e x).sz = s) (h4 : solo H (e x) = some (e x, H)) :
    stv H sz (e x) (.optr d b s i none) = some (updH H d (some ⟨b, s, (ys.set i x).map e, false, row, ex⟩)) := by
  have h5 : (ys.map e)[i]? = some (e ys[i]) := by simp [hi]
  have h6 : (ys.map e).set i (e x) = (ys.set i x).map e := by simp
  simp only [stv]
  rw [if_pos ⟨by simp, h1, h2⟩, hH]
  cases row <;> simp only [Option.bind_some, reduceIte, h4, hH, h5, h3, h6, Bool.false_eq_true, if_false, if_true, and_self]
theorem st_str {H : Hp} {d b i : Nat} {ys : List ByteArray} {row ex : Bool} {x : ByteArray} (hH : H d = some ⟨b, 1, ys.map .str, false, row, ex⟩) (hi : i < ys.length) :
    stv H none (.str x) (.optr d b 1 i none) = some (updH H d (some ⟨b, 1, (ys.set i x).map .str, false, row, ex⟩)) :=
  st_map .str hH hi rfl (fun _ => rfl) rfl rfl
theorem set_take {α : Type} {xs : List α} {i m : Nat} {z : α} (hi : i < xs.length) : (xs.take i ++ List.replicate (m + 1) z).set i xs[i] = xs.take (i + 1) ++ List.replicate m z := by
  have hl : (xs.take i).length = i := by simp; omega
  rw [List.set_append_right _ _ (by omega), hl, Nat.sub_self, List.replicate_succ, List.set_cons_zero, List.take_succ_eq_append_getElem hi, List.append_assoc]
  rfl
theorem set_rep {α : Type} {xs : List α} {k m : Nat} {z y : α} : (xs ++ List.replicate k y ++ List.replicate (m + 1) z).set (xs.length + k) y = xs ++ List.replicate (k + 1) y ++ List.replicate m z := by
  rw [List.set_append_right _ _ (by simp), List.length_append, List.length_replicate, Nat.sub_self, List.replicate_succ, List.set_cons_zero, List.replicate_succ', List.append_assoc, List.append_assoc, List.append_assoc]
  rfl
theorem rd_strs (fl : Bool) (H : Hp) (xs : List ByteArray) : rd3o fl H (strs xs) = some (strs xs, []) := by
  have h : (xs.map AV.str).take xs.length = xs.map .str := List.take_of_length_le (by simp)
  cases fl <;> simp [strs, rd3o, rd2o, rdpo, rd1o, h]
theorem so_strs (H : Hp) (xs : List ByteArray) : solo H (strs xs) = some (strs xs, H) := rfl
theorem src_strs (H : Hp) (xs : List ByteArray) : srcv H (strs xs) = some (xs.map .str) := by simp [srcv, strs, List.take_of_length_le]
theorem d_strs (H : Hp) (xs : List ByteArray) : ldv H none (.lptr (strs xs)) = some (strs xs) := Eq.trans rfl rfl
theorem d_int (H : Hp) (k : IntKind) (n : Int) : ldv H none (.lptr (.int k n)) = some (.int k n) := Eq.trans rfl rfl
theorem d_bool (H : Hp) (b : Bool) : ldv H none (.lptr (.bool b)) = some (.bool b) := Eq.trans rfl rfl
theorem sz_bool (b : Bool) : (AV.bool b).sz = 1 := Eq.trans rfl rfl
theorem sz_int (k : IntKind) (n : Int) : (AV.int k n).sz = 1 := Eq.trans rfl rfl
theorem sz_str (s : ByteArray) : (AV.str s).sz = 1 := Eq.trans rfl rfl
theorem sz_emp : AV.emp.sz = 1 := Eq.trans rfl rfl
theorem sz_lsl (t : Option (Nat × Nat)) (n : Nat) (xs : List AV) : (AV.lsl t n xs).sz = 1 := Eq.trans rfl rfl
theorem sz_own (d b s n : Nat) : (AV.own d b s n).sz = 1 := Eq.trans rfl rfl
theorem sz_optr (d b s i : Nat) (f : Option Nat) : (AV.optr d b s i f).sz = 1 := Eq.trans rfl rfl
theorem sz_fn (f : FuncId) (c : List AV) : (AV.fn f c).sz = 1 := Eq.trans rfl rfl
theorem sz_agg (fs : List AV) : (AV.agg fs).sz = fs.length := Eq.trans rfl rfl
theorem sz_strs (xs : List ByteArray) : (strs xs).sz = 1 := Eq.trans rfl rfl
theorem ia_bool (b : Bool) : (AV.bool b).isAgg = false := Eq.trans rfl rfl
theorem ia_int (k : IntKind) (n : Int) : (AV.int k n).isAgg = false := Eq.trans rfl rfl
theorem ia_str (s : ByteArray) : (AV.str s).isAgg = false := Eq.trans rfl rfl
theorem ia_emp : AV.emp.isAgg = false := Eq.trans rfl rfl
theorem ia_lsl (t : Option (Nat × Nat)) (n : Nat) (xs : List AV) : (AV.lsl t n xs).isAgg = false := Eq.trans rfl rfl
theorem ia_own (d b s n : Nat) : (AV.own d b s n).isAgg = false := Eq.trans rfl rfl
theorem ia_optr (d b s i : Nat) (f : Option Nat) : (AV.optr d b s i f).isAgg = false := Eq.trans rfl rfl
theorem ia_fn (f : FuncId) (c : List AV) : (AV.fn f c).isAgg = false := Eq.trans rfl rfl
theorem ia_agg (fs : List AV) : (AV.agg fs).isAgg = true := Eq.trans rfl rfl
theorem ia_strs (xs : List ByteArray) : (strs xs).isAgg = false := Eq.trans rfl rfl
theorem fz_none (v : AV) : fitsz none v = !v.isAgg := by cases v <;> rfl
theorem fz_some (m : Nat) (fs : List AV) : fitsz (some m) (.agg fs) = (fs.length == m) := Eq.trans rfl rfl
theorem m_beq (b : Bool) : (b == b) = true := beq_self_eq_true b
theorem m_bind {α β : Type} (a : α) (f : α → Option β) : (some a).bind f = f a := Option.bind_some a f
theorem m_maps {α β : Type} (a : α) (f : α → β) : (some a).map f = some (f a) := Option.map_some a f
theorem m_mapn {α β : Type} (f : α → β) : (none : Option α).map f = none := Option.map_none f
theorem m_get0 {α : Type} (a : α) (l : List α) (d : α) : (a :: l).getD 0 d = a := List.getD_cons_zero
theorem m_getS {α : Type} (a : α) (l : List α) (d : α) (n : Nat) : (a :: l).getD (n + 1) d = l.getD n d := List.getD_cons_succ
theorem m_mapc {α β : Type} (f : α → β) (a : α) (l : List α) : (a :: l).map f = f a :: l.map f := List.map_cons
theorem m_map0 {α β : Type} (f : α → β) : ([] : List α).map f = [] := List.map_nil
theorem m_appn {α : Type} (l : List α) : l ++ [] = l := List.append_nil l
theorem m_napp {α : Type} (l : List α) : [] ++ l = l := List.nil_append l
theorem m_capp {α : Type} (a : α) (l r : List α) : a :: l ++ r = a :: (l ++ r) := List.cons_append
set_option linter.defProp false
/-- the machine's steps, for simp -/
def SD :=
  And.intro @w_seq <|
  And.intro @w_reg <|
  And.intro @w_block <|
  And.intro @w_loop <|
  And.intro @w_cond <|
  And.intro @w_exit <|
  And.intro @w_ret <|
  And.intro @w_skip <|
  And.intro @t_normal <|
  And.intro @t_ret <|
  And.intro @t_exit <|
  And.intro @b_normal <|
  And.intro @b_ret <|
  And.intro @b_exit <|
  And.intro @vops_nil <|
  And.intro @o_mv <|
  And.intro @o_bin <|
  And.intro @o_not <|
  And.intro @o_beq <|
  And.intro @o_pick <|
  And.intro @o_len <|
  And.intro @o_idx <|
  And.intro @o_idxA <|
  And.intro @o_fldA <|
  And.intro @o_ld <|
  And.intro @o_slc <|
  And.intro @o_slc0 <|
  And.intro @o_ext <|
  And.intro @o_fld <|
  And.intro @o_bld <|
  And.intro @o_mkf <|
  And.intro @o_conv <|
  And.intro @o_mx <|
  And.intro @o_nil <|
  And.intro @o_alc <|
  And.intro @o_box <|
  And.intro @o_mks <|
  And.intro @o_bls <|
  And.intro @o_st <|
  And.intro @o_app <|
  And.intro @o_call <|
  And.intro @o_gt <|
  And.intro @o_gf <|
  And.intro @f_ret <|
  And.intro @f_normal <|
  And.intro @upd_at <|
  And.intro @updH_at <|
  And.intro @o_neg <|
  And.intro @o_isnil <|
  And.intro @o_uend <|
  And.intro @o_uem <|
  And.intro @o_ucl <|
  And.intro @o_b2s <|
  And.intro @o_blk <|
  And.intro @o_callm <|
  And.intro @w_ghost <|
  And.intro @fm_ret <|
  And.intro @fm_normal <| @src_strs
def SP :=
  And.intro @sz_bool <|
  And.intro @sz_int <|
  And.intro @sz_str <|
  And.intro @sz_emp <|
  And.intro @sz_lsl <|
  And.intro @sz_own <|
  And.intro @sz_optr <|
  And.intro @sz_fn <|
  And.intro @sz_agg <|
  And.intro @sz_strs <|
  And.intro @ia_bool <|
  And.intro @ia_int <|
  And.intro @ia_str <|
  And.intro @ia_emp <|
  And.intro @ia_lsl <|
  And.intro @ia_own <|
  And.intro @ia_optr <|
  And.intro @ia_fn <|
  And.intro @ia_agg <|
  And.intro @ia_strs <|
  And.intro @fz_none <|
  And.intro @fz_some <|
  And.intro @decide_true <|
  And.intro @decide_false <|
  And.intro @Bool.not_true <|
  And.intro @Bool.not_false <|
  And.intro @e_beq <|
  And.intro @e_bne <|
  And.intro @m_beq <|
  And.intro @ev_t <|
  And.intro @ev_c <|
  And.intro @bv_eq <|
  And.intro @bo_some <|
  And.intro @bo_none <|
  And.intro @vif_true <|
  And.intro @vif_false <|
  And.intro @vif_not <|
  And.intro @bb_true <|
  And.intro @bb_false <|
  And.intro @bb_dec <|
  And.intro @bb_not <|
  And.intro @bg_tt <|
  And.intro @bg_ff <|
  And.intro @bg_tf <|
  And.intro @bg_ft <|
  And.intro @bg_un <|
  And.intro @bg_dt <|
  And.intro @bg_df <|
  And.intro @bg_nt <|
  And.intro @bg_nf <|
  And.intro @breq_true <|
  And.intro @r_bool <|
  And.intro @r_int <|
  And.intro @r_str <|
  And.intro @r_undef <|
  And.intro @r_lsl <|
  And.intro @r_emp <|
  And.intro @r_agg <|
  And.intro @skipE_some <|
  And.intro @skipE_none <|
  And.intro @mkR_one <|
  And.intro @m_bind <|
  And.intro @m_maps <|
  And.intro @m_mapn <|
  And.intro @m_get0 <|
  And.intro @m_getS <|
  And.intro @v_add <|
  And.intro @v_sub <|
  And.intro @v_mul <|
  And.intro @v_eql <|
  And.intro @v_neq <|
  And.intro @v_lss <|
  And.intro @v_leq <|
  And.intro @v_gtr <|
  And.intro @v_geq <|
  And.intro @v_seql <|
  And.intro @v_sneq <|
  And.intro @l_str <|
  And.intro @l_lsl <|
  And.intro @l_own <|
  And.intro @l_emp <|
  And.intro @n_bool <|
  And.intro @p_true <|
  And.intro @p_false <|
  And.intro @d_str <|
  And.intro @d_int <|
  And.intro @d_bool <|
  And.intro @d_strs <|
  And.intro @m_mapc <|
  And.intro @m_map0 <|
  And.intro @m_appn <|
  And.intro @m_napp <| @m_capp

end Go.AVM
