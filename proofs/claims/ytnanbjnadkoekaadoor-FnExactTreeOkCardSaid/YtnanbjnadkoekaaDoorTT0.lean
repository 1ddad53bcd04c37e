/- Paths in order, and below one another: the plain law. -/
import Derived.Test.YtnanbjnadkoekaaDoorTP0
import Derived.Test.YtnanbjnadkoekaaDoorVJ
set_option linter.unusedSimpArgs false
set_option linter.unusedVariables false
namespace Go.AVM
def sLt (a b : ByteArray) : Bool := decide (a.data.toList < b.data.toList)
theorem bl_eq (x : List UInt8) : ∀ y : List UInt8, Op.bytesLess x y = decide (x < y) := by
  induction x with
  | nil => intro y; cases y <;> simp [Op.bytesLess]
  | cons a x ih =>
    intro y
    cases y with
    | nil => simp [Op.bytesLess]
    | cons b y =>
      rw [Op.bytesLess, ih y]
      simp only [List.cons_lt_cons_iff]
      by_cases h1 : a < b <;> by_cases h2 : a = b <;> by_cases h3 : x < y <;> simp [h1, h2, h3]
theorem ba_ext {a b : ByteArray} (h : a.data.toList = b.data.toList) : a = b := by
  cases a; cases b
  simp only [ByteArray.mk.injEq]
  exact Array.toList_inj.1 h
theorem ba_toList (a : ByteArray) : a.toList = a.data.toList := Lib.toList_data a
theorem u8_trans {a b c : UInt8} (h1 : a < b) (h2 : b < c) : a < c := by
  rw [UInt8.lt_iff_toNat_lt] at *
  omega
theorem sl_tri (a b : List UInt8) : a < b ∨ a = b ∨ b < a := by
  induction a generalizing b with
  | nil => cases b with
    | nil => exact .inr (.inl rfl)
    | cons y b => exact .inl (List.nil_lt_cons _ _)
  | cons x a ih => cases b with
    | nil => exact .inr (.inr (List.nil_lt_cons _ _))
    | cons y b =>
      rw [List.cons_lt_cons_iff, List.cons_lt_cons_iff]
      rcases Nat.lt_trichotomy x.toNat y.toNat with h | h | h
      · exact .inl (.inl (UInt8.lt_iff_toNat_lt.2 h))
      · obtain rfl : x = y := UInt8.toNat_inj.1 h
        rcases ih b with h | rfl | h
        · exact .inl (.inr ⟨rfl, h⟩)
        · exact .inr (.inl rfl)
        · exact .inr (.inr (.inr ⟨rfl, h⟩))
      · exact .inr (.inr (.inl (UInt8.lt_iff_toNat_lt.2 h)))
theorem sl_trans {a b c : List UInt8} (h1 : a < b) (h2 : b < c) : a < c := List.lex_trans (fun h1 h2 => u8_trans h1 h2) h1 h2
theorem sl_irrefl (a : List UInt8) : ¬ a < a := List.lex_irrefl (fun x h => by rw [UInt8.lt_iff_toNat_lt] at h; omega) a
theorem sLt_trans {a b c : ByteArray} (h1 : sLt a b = true) (h2 : sLt b c = true) : sLt a c = true :=
  decide_eq_true (sl_trans (of_decide_eq_true h1) (of_decide_eq_true h2))
theorem sLt_irrefl (a : ByteArray) : sLt a a = false := decide_eq_false (sl_irrefl _)
theorem sLt_tri (a b : ByteArray) : sLt a b = true ∨ a = b ∨ sLt b a = true := by
  rcases sl_tri a.data.toList b.data.toList with h | h | h
  · exact .inl (decide_eq_true h)
  · exact .inr (.inl (ba_ext h))
  · exact .inr (.inr (decide_eq_true h))
theorem sLt_asymm {a b : ByteArray} (h : sLt a b = true) : sLt b a = false := by
  cases h' : sLt b a with
  | false => rfl
  | true => have := sLt_trans h h'; rw [sLt_irrefl] at this; cases this
theorem leq_eq (a b : ByteArray) : (Op.bytesLess a.toList b.toList || a.toList == b.toList) = !sLt b a := by
  rw [bl_eq, data_inj]
  rw [ba_toList, ba_toList]
  show (sLt a b || decide (a = b)) = _
  rcases sLt_tri a b with h | rfl | h
  · simp [h, sLt_asymm h]
  · simp [sLt_irrefl]
  · rw [h, sLt_asymm h]
    have : a ≠ b := fun e => by subst e; rw [sLt_irrefl] at h; cases h
    simp [this]
theorem v_slss (a b : ByteArray) : binv .lss (.str a) (.str b) = some (.bool (sLt a b)) := by simp [binv, bl_eq, ba_toList, sLt]
theorem v_sgeq (a b : ByteArray) : binv .geq (.str a) (.str b) = some (.bool (!sLt a b)) := by simp [binv, bl_eq, ba_toList, sLt]
theorem v_sleq (a b : ByteArray) : binv .leq (.str a) (.str b) = some (.bool (!sLt b a)) := by
  rw [← leq_eq]; simp [binv]
theorem v_sgtr (a b : ByteArray) : binv .gtr (.str a) (.str b) = some (.bool (sLt b a)) := by
  have := leq_eq a b
  simp only [binv, this, Bool.not_not]
theorem v_sadd (a b : ByteArray) (h : a.size + b.size ≤ 9223372036854775807) : binv .add (.str a) (.str b) = some (.str (a ++ b)) := by
  simp only [binv, if_pos h]
/-! ### one path below another -/
abbrev pl (s : ByteArray) : List UInt8 := s.data.toList
theorem pl_len (s : ByteArray) : (pl s).length = s.size := by
  show s.data.toList.length = s.data.size
  exact Array.length_toList
/-- the second is below the first -/
def inB (d p : ByteArray) : Bool := (pl d ++ [47]).isPrefixOf (pl p)
theorem inB_iff (d p : ByteArray) : inB d p = true ↔ ∃ r, pl p = pl d ++ 47 :: r := by
  unfold inB
  rw [List.isPrefixOf_iff_prefix]
  constructor
  · rintro ⟨r, h⟩
    exact ⟨r, by rw [← h]; simp⟩
  · rintro ⟨r, h⟩
    exact ⟨r, by rw [h]; simp⟩
theorem pl_ext (s : ByteArray) (i j : Nat) (hj : j ≤ s.size) : pl (s.extract i j) = ((pl s).drop i).take (j - i) := by
  unfold pl
  rw [ByteArray.data_extract, Array.toList_extract, List.extract_eq_take_drop]
theorem pl_app (a b : ByteArray) : pl (a ++ b) = pl a ++ pl b := by
  unfold pl
  rw [ByteArray.data_append, Array.toList_append]
def stroke : ByteArray := ⟨#[47]⟩
/-- the program's way -/
theorem in_has (d p : ByteArray) : (decide (d.size + 1 ≤ p.size) && decide (p.extract 0 (d.size + 1) = d ++ stroke)) = inB d p := by
  rw [Bool.eq_iff_iff, inB_iff, Bool.and_eq_true, decide_eq_true_eq, decide_eq_true_eq]
  constructor
  · rintro ⟨h1, h2⟩
    have := congrArg pl h2
    rw [pl_ext _ _ _ h1, pl_app] at this
    simp only [List.drop_zero, Nat.sub_zero] at this
    refine ⟨(pl p).drop (d.size + 1), ?_⟩
    have ht := List.take_append_drop (d.size + 1) (pl p)
    rw [this] at ht
    refine ht.symm.trans ?_
    rw [List.append_assoc]
    rfl
  · rintro ⟨r, h⟩
    have hl := congrArg List.length h
    rw [pl_len] at hl
    simp only [List.length_append, pl_len, List.length_cons] at hl
    have h1 : d.size + 1 ≤ p.size := by omega
    refine ⟨h1, ba_ext ?_⟩
    show pl _ = pl _
    rw [pl_ext _ _ _ h1, pl_app, h]
    simp only [List.drop_zero, Nat.sub_zero]
    rw [← pl_len d, show pl d ++ 47 :: r = (pl d ++ [47]) ++ r by simp, show (pl d).length + 1 = (pl d ++ [47]).length by simp, List.take_left]
    simp [stroke, pl]
/-- the reference's way -/
theorem in_cut (d p : ByteArray) (h1 : d.size < p.size) : (decide (p.extract 0 d.size = d) && decide (p[d.size] = 47)) = inB d p := by
  rw [Bool.eq_iff_iff, inB_iff, Bool.and_eq_true, decide_eq_true_eq, decide_eq_true_eq]
  have hd : (pl p).drop d.size = p[d.size] :: (pl p).drop (d.size + 1) := by
    have hl : d.size < (pl p).length := by rw [pl_len]; exact h1
    rw [List.drop_eq_getElem_cons hl]
    rfl
  constructor
  · rintro ⟨h2, h3⟩
    have := congrArg pl h2
    rw [pl_ext _ _ _ (by omega)] at this
    simp only [List.drop_zero, Nat.sub_zero] at this
    refine ⟨(pl p).drop (d.size + 1), ?_⟩
    have ht := List.take_append_drop d.size (pl p)
    rw [this, hd, h3] at ht
    exact ht.symm
  · rintro ⟨r, h⟩
    have e1 : (pl p).take d.size = pl d := by rw [h, ← pl_len d]; simp
    have e2 : (pl p).drop d.size = 47 :: r := by rw [h, ← pl_len d]; simp
    rw [hd] at e2
    refine ⟨ba_ext ?_, (List.cons.inj e2).1⟩
    show pl _ = pl _
    rw [pl_ext _ _ _ (by omega)]
    simpa using e1
theorem in_size {d p : ByteArray} (h : inB d p = true) : d.size < p.size := by
  obtain ⟨r, h⟩ := (inB_iff _ _).1 h
  have hl := congrArg List.length h
  rw [pl_len] at hl
  simp only [List.length_append, pl_len, List.length_cons] at hl
  omega
theorem in_lt {d p : ByteArray} (h : inB d p = true) : sLt d p = true := by
  obtain ⟨r, h⟩ := (inB_iff _ _).1 h
  refine decide_eq_true ?_
  show pl d < pl p
  rw [h]
  generalize pl d = l
  induction l with
  | nil => exact List.nil_lt_cons _ _
  | cons x l ih => exact List.cons_lt_cons_iff.2 (.inr ⟨rfl, ih⟩)
theorem splitL_mid : ∀ (a r : List UInt8), splitL (a ++ 47 :: r) = splitL a ++ splitL r
  | [], r => by simp [splitL]
  | b :: a, r => by
    have ih := splitL_mid a r
    simp only [List.cons_append, splitL]
    by_cases hb : b = 47
    · rw [if_pos hb, if_pos hb, ih]; rfl
    · rw [if_neg hb, if_neg hb, ih]
      cases hs : splitL a with
      | nil => exact absurd hs (splitL_ne a)
      | cons x xs => rfl
/-- what has an ok path below it is an ok path -/
theorem in_ok {d p : ByteArray} (h : inB d p = true) (hp : pathOk p = true) : pathOk d = true := by
  obtain ⟨r, h⟩ := (inB_iff _ _).1 h
  unfold pathOk pieces at *
  rw [show p.data.toList = pl d ++ 47 :: r from h, splitL_mid] at hp
  simp only [List.map_append, List.length_append, List.length_map, List.all_append, Bool.and_eq_true, decide_eq_true_eq] at hp
  simp only [List.length_map, Bool.and_eq_true, decide_eq_true_eq]
  exact ⟨by have := hp.1; show (splitL (pl d)).length ≤ 3; omega, hp.2.1⟩
def pathIn (d p : ByteArray) : Bool := pathOk d && (pathOk p && inB d p)
theorem pathIn_of {d p : ByteArray} (hp : pathOk p = true) : pathIn d p = inB d p := by
  unfold pathIn
  cases h : inB d p with
  | false => simp
  | true => simp [hp, in_ok h hp]
end Go.AVM
