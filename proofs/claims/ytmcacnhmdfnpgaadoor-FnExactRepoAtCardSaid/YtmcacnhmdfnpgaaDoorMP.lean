/- Paths: the plain law. -/
import Derived.Test.YtmcacnhmdfnpgaaDoorMI
import Derived.Lib.Bytealg
import Derived.Test.YtmcacnhmdfnpgaaDoorMH
import Derived.Test.YtmcacnhmdfnpgaaDoorMC
set_option linter.unusedSimpArgs false
set_option linter.unusedVariables false
namespace Go.AVM
abbrev mkB (l : List UInt8) : ByteArray := ⟨l.toArray⟩
theorem mkB_data (s : ByteArray) : mkB s.data.toList = s := by cases s; rfl
theorem mkB_size (l : List UInt8) : (mkB l).size = l.length := by simp [ByteArray.size]
theorem mkB_list (l : List UInt8) : (mkB l).data.toList = l := by simp
theorem ex_mkB (l : List UInt8) (i j : Nat) (hj : j ≤ l.length) : (mkB l).extract i j = mkB ((l.drop i).take (j - i)) := by
  apply ByteArray.ext
  rw [ByteArray.data_extract]
  simp only [List.extract_toArray, List.extract_eq_take_drop]
/-- the pieces between strokes -/
def splitL : List UInt8 → List (List UInt8)
  | [] => [[]]
  | b :: l => if b = 47 then [] :: splitL l else match splitL l with
    | x :: xs => (b :: x) :: xs
    | [] => [[b]]
theorem splitL_ne : ∀ l, splitL l ≠ []
  | [] => by simp [splitL]
  | b :: l => by
    unfold splitL
    split
    · simp
    · split <;> simp
theorem splitL_len : ∀ l : List UInt8, (splitL l).length = l.count 47 + 1
  | [] => rfl
  | b :: l => by
    have ih := splitL_len l
    unfold splitL
    by_cases h : b = 47
    · subst h
      rw [if_pos rfl, List.length_cons, ih, List.count_cons_self]
    · rw [if_neg h, List.count_cons_of_ne (by simpa using h)]
      cases hs : splitL l with
      | nil => exact absurd hs (splitL_ne l)
      | cons x xs => rw [hs] at ih; simpa using ih
theorem splitL_none {l : List UInt8} (h : Lib.indexByte l 47 = -1) : splitL l = [l] := by
  induction l with
  | nil => rfl
  | cons b l ih =>
    unfold Lib.indexByte at h
    by_cases hb : b = 47
    · subst hb
      simp at h
    · have hb' : (b == (47 : UInt8)) = false := by simpa using hb
      rw [hb'] at h
      simp only [Bool.false_eq_true, if_false] at h
      have hl : Lib.indexByte l 47 = -1 := by
        split at h
        · rename_i h'; simpa using h'
        · have := Lib.indexByte_ge l 47; omega
      unfold splitL
      rw [if_neg hb, ih hl]
theorem splitL_some : ∀ {l : List UInt8} {m : Nat}, Lib.indexByte l 47 = m → m < l.length ∧ splitL l = l.take m :: splitL (l.drop (m + 1))
  | [], m, h => by simp [Lib.indexByte] at h
  | b :: l, m, h => by
    unfold Lib.indexByte at h
    by_cases hb : b = 47
    · subst hb
      have hm : m = 0 := by
        have h' : (0 : Int) = (m : Int) := by simpa using h
        omega
      subst hm
      exact ⟨by simp, by simp [splitL]⟩
    · have hb' : (b == (47 : UInt8)) = false := by simpa using hb
      rw [hb'] at h
      simp only [Bool.false_eq_true, if_false] at h
      split at h
      · omega
      · obtain ⟨k, hk⟩ := Int.eq_ofNat_of_zero_le (show 0 ≤ Lib.indexByte l 47 by have := Lib.indexByte_ge l 47; rename_i h'; simp at h'; omega)
        obtain ⟨h1, h2⟩ := splitL_some hk
        obtain rfl : m = k + 1 := by omega
        refine ⟨by simp; omega, ?_⟩
        have e : splitL (b :: l) = (match splitL l with
          | x :: xs => (b :: x) :: xs
          | [] => [[b]]) := by rw [splitL, if_neg hb]
        rw [e, h2]
        simp only [List.take_succ_cons, List.drop_succ_cons]
def pieces (s : ByteArray) : List ByteArray := (splitL s.data.toList).map mkB
/-- a name: small letters and figures, one to six -/
def nmB (b : UInt8) : Bool := decide (97 ≤ b.toNat ∧ b.toNat ≤ 122) || decide (48 ≤ b.toNat ∧ b.toNat ≤ 57)
def nmOk (s : ByteArray) : Bool := s.data.toList.all nmB && decide (1 ≤ s.size ∧ s.size ≤ 6)
def pathOk (s : ByteArray) : Bool := decide ((pieces s).length ≤ 3) && (pieces s).all nmOk
/-- cut at strokes, so many times at most -/
def cutL : Nat → List UInt8 → List (List UInt8)
  | 0, l => [l]
  | n + 1, l => match Lib.indexByte l 47 with
    | .ofNat m => l.take m :: cutL n (l.drop (m + 1))
    | .negSucc _ => [l]
theorem cutL_split : ∀ (n : Nat) (l : List UInt8), (splitL l).length ≤ n + 1 → cutL n l = splitL l
  | 0, l, h => by
    cases hi : Lib.indexByte l 47 with
    | ofNat m =>
      obtain ⟨_, h2⟩ := splitL_some (m := m) hi
      have := splitL_ne (l.drop (m + 1))
      rw [h2] at h
      cases hs : splitL (l.drop (m + 1)) with
      | nil => exact absurd hs this
      | cons x xs => rw [hs] at h; simp at h
    | negSucc k =>
      have := Lib.indexByte_ge l 47
      rw [splitL_none (by omega)]
      rfl
  | n + 1, l, h => by
    simp only [cutL]
    cases hi : Lib.indexByte l 47 with
    | ofNat m =>
      obtain ⟨_, h2⟩ := splitL_some (m := m) hi
      show l.take m :: cutL n (l.drop (m + 1)) = _
      rw [h2] at h ⊢
      rw [cutL_split n _ (by simpa using h)]
    | negSucc k =>
      show [l] = _
      have := Lib.indexByte_ge l 47
      rw [splitL_none (by omega)]
theorem cutL_len : ∀ (n : Nat) (l : List UInt8), n + 1 ≤ (splitL l).length → (cutL n l).length = n + 1
  | 0, l, h => rfl
  | n + 1, l, h => by
    simp only [cutL]
    cases hi : Lib.indexByte l 47 with
    | ofNat m =>
      obtain ⟨_, h2⟩ := splitL_some (m := m) hi
      show (l.take m :: cutL n (l.drop (m + 1))).length = _
      rw [h2] at h
      rw [List.length_cons, cutL_len n _ (by simpa using h)]
    | negSucc k =>
      have := Lib.indexByte_ge l 47
      rw [splitL_none (by omega)] at h
      simp at h
/-- the reference's way -/
theorem pathOk_cut (s : ByteArray) : pathOk s = (((cutL 3 s.data.toList).map mkB).all nmOk && decide ((cutL 3 s.data.toList).length ≤ 3)) := by
  unfold pathOk pieces
  rw [List.length_map]
  by_cases h : (splitL s.data.toList).length ≤ 4
  · rw [cutL_split 3 _ (by omega), Bool.and_comm]
  · rw [cutL_len 3 _ (by omega)]
    simp [show ¬ (splitL s.data.toList).length ≤ 3 by omega]
end Go.AVM

/- Paths in order, and below one another: the plain law. -/
set_option linter.unusedSimpArgs false
set_option linter.unusedVariables false
namespace Go.AVM
def sLt (a b : ByteArray) : Bool := decide (a.data.toList < b.data.toList)
theorem bl_eq (x : List UInt8) : ∀ y : List UInt8, Op.bytesLess x y = decide (x < y) := by
  induction x with
  | nil => intro y; cases y <;> simp [Op.bytesLess]
  | cons a x ih =>
    intro y
    cases y with
    | nil => simp [Op.bytesLess]
    | cons b y =>
      rw [Op.bytesLess, ih y]
      simp only [List.cons_lt_cons_iff]
      by_cases h1 : a < b <;> by_cases h2 : a = b <;> by_cases h3 : x < y <;> simp [h1, h2, h3]
theorem ba_ext {a b : ByteArray} (h : a.data.toList = b.data.toList) : a = b := by
  cases a; cases b
  simp only [ByteArray.mk.injEq]
  exact Array.toList_inj.1 h
theorem ba_toList (a : ByteArray) : a.toList = a.data.toList := Lib.toList_data a
theorem u8_trans {a b c : UInt8} (h1 : a < b) (h2 : b < c) : a < c := by
  rw [UInt8.lt_iff_toNat_lt] at *
  omega
theorem sl_tri (a b : List UInt8) : a < b ∨ a = b ∨ b < a := by
  induction a generalizing b with
  | nil => cases b with
    | nil => exact .inr (.inl rfl)
    | cons y b => exact .inl (List.nil_lt_cons _ _)
  | cons x a ih => cases b with
    | nil => exact .inr (.inr (List.nil_lt_cons _ _))
    | cons y b =>
      rw [List.cons_lt_cons_iff, List.cons_lt_cons_iff]
      rcases Nat.lt_trichotomy x.toNat y.toNat with h | h | h
      · exact .inl (.inl (UInt8.lt_iff_toNat_lt.2 h))
      · obtain rfl : x = y := UInt8.toNat_inj.1 h
        rcases ih b with h | rfl | h
        · exact .inl (.inr ⟨rfl, h⟩)
        · exact .inr (.inl rfl)
        · exact .inr (.inr (.inr ⟨rfl, h⟩))
      · exact .inr (.inr (.inl (UInt8.lt_iff_toNat_lt.2 h)))
theorem sl_trans {a b c : List UInt8} (h1 : a < b) (h2 : b < c) : a < c := List.lex_trans (fun h1 h2 => u8_trans h1 h2) h1 h2
theorem sl_irrefl (a : List UInt8) : ¬ a < a := List.lex_irrefl (fun x h => by rw [UInt8.lt_iff_toNat_lt] at h; omega) a
theorem sLt_trans {a b c : ByteArray} (h1 : sLt a b = true) (h2 : sLt b c = true) : sLt a c = true :=
  decide_eq_true (sl_trans (of_decide_eq_true h1) (of_decide_eq_true h2))
theorem sLt_irrefl (a : ByteArray) : sLt a a = false := decide_eq_false (sl_irrefl _)
theorem sLt_tri (a b : ByteArray) : sLt a b = true ∨ a = b ∨ sLt b a = true := by
  rcases sl_tri a.data.toList b.data.toList with h | h | h
  · exact .inl (decide_eq_true h)
  · exact .inr (.inl (ba_ext h))
  · exact .inr (.inr (decide_eq_true h))
theorem sLt_asymm {a b : ByteArray} (h : sLt a b = true) : sLt b a = false := by
  cases h' : sLt b a with
  | false => rfl
  | true => have := sLt_trans h h'; rw [sLt_irrefl] at this; cases this
theorem leq_eq (a b : ByteArray) : (Op.bytesLess a.toList b.toList || a.toList == b.toList) = !sLt b a := by
  rw [bl_eq, data_inj]
  rw [ba_toList, ba_toList]
  show (sLt a b || decide (a = b)) = _
  rcases sLt_tri a b with h | rfl | h
  · simp [h, sLt_asymm h]
  · simp [sLt_irrefl]
  · rw [h, sLt_asymm h]
    have : a ≠ b := fun e => by subst e; rw [sLt_irrefl] at h; cases h
    simp [this]
theorem v_slss (a b : ByteArray) : binv .lss (.str a) (.str b) = some (.bool (sLt a b)) := by simp [binv, bl_eq, ba_toList, sLt]
theorem v_sgeq (a b : ByteArray) : binv .geq (.str a) (.str b) = some (.bool (!sLt a b)) := by simp [binv, bl_eq, ba_toList, sLt]
theorem v_sleq (a b : ByteArray) : binv .leq (.str a) (.str b) = some (.bool (!sLt b a)) := by
  rw [← leq_eq]; simp [binv]
theorem v_sgtr (a b : ByteArray) : binv .gtr (.str a) (.str b) = some (.bool (sLt b a)) := by
  have := leq_eq a b
  simp only [binv, this, Bool.not_not]
/-! ### one path below another -/
abbrev pl (s : ByteArray) : List UInt8 := s.data.toList
theorem pl_len (s : ByteArray) : (pl s).length = s.size := by
  show s.data.toList.length = s.data.size
  exact Array.length_toList
/-- the second is below the first -/
def inB (d p : ByteArray) : Bool := (pl d ++ [47]).isPrefixOf (pl p)
theorem inB_iff (d p : ByteArray) : inB d p = true ↔ ∃ r, pl p = pl d ++ 47 :: r := by
  unfold inB
  rw [List.isPrefixOf_iff_prefix]
  constructor
  · rintro ⟨r, h⟩
    exact ⟨r, by rw [← h]; simp⟩
  · rintro ⟨r, h⟩
    exact ⟨r, by rw [h]; simp⟩
theorem pl_ext (s : ByteArray) (i j : Nat) (hj : j ≤ s.size) : pl (s.extract i j) = ((pl s).drop i).take (j - i) := by
  unfold pl
  rw [ByteArray.data_extract, Array.toList_extract, List.extract_eq_take_drop]
theorem pl_app (a b : ByteArray) : pl (a ++ b) = pl a ++ pl b := by
  unfold pl
  rw [ByteArray.data_append, Array.toList_append]
def stroke : ByteArray := ⟨#[47]⟩
/-- the program's way -/
theorem in_has (d p : ByteArray) : (decide (d.size + 1 ≤ p.size) && decide (p.extract 0 (d.size + 1) = d ++ stroke)) = inB d p := by
  rw [Bool.eq_iff_iff, inB_iff, Bool.and_eq_true, decide_eq_true_eq, decide_eq_true_eq]
  constructor
  · rintro ⟨h1, h2⟩
    have := congrArg pl h2
    rw [pl_ext _ _ _ h1, pl_app] at this
    simp only [List.drop_zero, Nat.sub_zero] at this
    refine ⟨(pl p).drop (d.size + 1), ?_⟩
    have ht := List.take_append_drop (d.size + 1) (pl p)
    rw [this] at ht
    refine ht.symm.trans ?_
    rw [List.append_assoc]
    rfl
  · rintro ⟨r, h⟩
    have hl := congrArg List.length h
    rw [pl_len] at hl
    simp only [List.length_append, pl_len, List.length_cons] at hl
    have h1 : d.size + 1 ≤ p.size := by omega
    refine ⟨h1, ba_ext ?_⟩
    show pl _ = pl _
    rw [pl_ext _ _ _ h1, pl_app, h]
    simp only [List.drop_zero, Nat.sub_zero]
    rw [← pl_len d, show pl d ++ 47 :: r = (pl d ++ [47]) ++ r by simp, show (pl d).length + 1 = (pl d ++ [47]).length by simp, List.take_left]
    simp [stroke, pl]
/-- the reference's way -/
theorem in_cut (d p : ByteArray) (h1 : d.size < p.size) : (decide (p.extract 0 d.size = d) && decide (p[d.size] = 47)) = inB d p := by
  rw [Bool.eq_iff_iff, inB_iff, Bool.and_eq_true, decide_eq_true_eq, decide_eq_true_eq]
  have hd : (pl p).drop d.size = p[d.size] :: (pl p).drop (d.size + 1) := by
    have hl : d.size < (pl p).length := by rw [pl_len]; exact h1
    rw [List.drop_eq_getElem_cons hl]
    rfl
  constructor
  · rintro ⟨h2, h3⟩
    have := congrArg pl h2
    rw [pl_ext _ _ _ (by omega)] at this
    simp only [List.drop_zero, Nat.sub_zero] at this
    refine ⟨(pl p).drop (d.size + 1), ?_⟩
    have ht := List.take_append_drop d.size (pl p)
    rw [this, hd, h3] at ht
    exact ht.symm
  · rintro ⟨r, h⟩
    have e1 : (pl p).take d.size = pl d := by rw [h, ← pl_len d]; simp
    have e2 : (pl p).drop d.size = 47 :: r := by rw [h, ← pl_len d]; simp
    rw [hd] at e2
    refine ⟨ba_ext ?_, (List.cons.inj e2).1⟩
    show pl _ = pl _
    rw [pl_ext _ _ _ (by omega)]
    simpa using e1
theorem in_size {d p : ByteArray} (h : inB d p = true) : d.size < p.size := by
  obtain ⟨r, h⟩ := (inB_iff _ _).1 h
  have hl := congrArg List.length h
  rw [pl_len] at hl
  simp only [List.length_append, pl_len, List.length_cons] at hl
  omega
theorem in_lt {d p : ByteArray} (h : inB d p = true) : sLt d p = true := by
  obtain ⟨r, h⟩ := (inB_iff _ _).1 h
  refine decide_eq_true ?_
  show pl d < pl p
  rw [h]
  generalize pl d = l
  induction l with
  | nil => exact List.nil_lt_cons _ _
  | cons x l ih => exact List.cons_lt_cons_iff.2 (.inr ⟨rfl, ih⟩)
theorem splitL_mid : ∀ (a r : List UInt8), splitL (a ++ 47 :: r) = splitL a ++ splitL r
  | [], r => by simp [splitL]
  | b :: a, r => by
    have ih := splitL_mid a r
    simp only [List.cons_append, splitL]
    by_cases hb : b = 47
    · rw [if_pos hb, if_pos hb, ih]; rfl
    · rw [if_neg hb, if_neg hb, ih]
      cases hs : splitL a with
      | nil => exact absurd hs (splitL_ne a)
      | cons x xs => rfl
/-- what has an ok path below it is an ok path -/
theorem in_ok {d p : ByteArray} (h : inB d p = true) (hp : pathOk p = true) : pathOk d = true := by
  obtain ⟨r, h⟩ := (inB_iff _ _).1 h
  unfold pathOk pieces at *
  rw [show p.data.toList = pl d ++ 47 :: r from h, splitL_mid] at hp
  simp only [List.map_append, List.length_append, List.length_map, List.all_append, Bool.and_eq_true, decide_eq_true_eq] at hp
  simp only [List.length_map, Bool.and_eq_true, decide_eq_true_eq]
  exact ⟨by have := hp.1; show (splitL (pl d)).length ≤ 3; omega, hp.2.1⟩
def pathIn (d p : ByteArray) : Bool := pathOk d && (pathOk p && inB d p)
theorem pathIn_of {d p : ByteArray} (hp : pathOk p = true) : pathIn d p = inB d p := by
  unfold pathIn
  cases h : inB d p with
  | false => simp
  | true => simp [hp, in_ok h hp]
end Go.AVM

/- Paths: what the functions give. -/
set_option linter.unusedSimpArgs false
set_option linter.unusedVariables false
namespace Go.AVM
open Go.RowKit
theorem two_args {w : World} {S : Nat → Prop} {s : ByteArray} {k : IntKind} {c : Int} {vs : Array Value} (h : RVs w S [.str s, .int k c] vs) : vs = #[.string s, .int k c] := by
  obtain ⟨hsz, hv⟩ := h
  obtain ⟨u0, h0, r0⟩ := hv 0 _ rfl
  obtain ⟨u1, h1, r1⟩ := hv 1 _ rfl
  have e0 := r0.str_inv
  have e1 := r1.int_inv
  subst e0 e1
  obtain ⟨l⟩ := vs
  match l, hsz with
  | [a, b], _ =>
    simp at h0 h1
    subst h0 h1
    rfl
theorem s_count (s : ByteArray) (c : Int) : OK Go.Proofs.Tryd.prog 147 [.str s, .int .u8 c] (fun _ _ r => r = .int .i64 (Lib.countByte s.data.toList c.toNat.toUInt8)) := by
  refine .inr fun w S vs hS hv => ?_
  obtain rfl := two_args hv
  refine ⟨_, .int .i64 (Lib.countByte s.data.toList c.toNat.toUInt8), ?_, rfl, rfl, .int _ _⟩
  rw [run_callFunc_extern Go.Proofs.Tryd.func147 (by kernel_rfl) (by kernel_rfl) (by kernel_rfl) (e := Extern.BytealgCount.count) (by kernel_rfl), Lib.run_countString]
  rfl
theorem s_indexB (s : ByteArray) (c : Int) : OK Go.Proofs.Tryd.prog 154 [.str s, .int .u8 c] (fun _ _ r => r = .int .i64 (Lib.indexByte s.data.toList c.toNat.toUInt8)) := by
  refine .inr fun w S vs hS hv => ?_
  obtain rfl := two_args hv
  refine ⟨_, .int .i64 (Lib.indexByte s.data.toList c.toNat.toUInt8), ?_, rfl, rfl, .int _ _⟩
  rw [run_callFunc_extern Go.Proofs.Tryd.func154 (by kernel_rfl) (by kernel_rfl) (by kernel_rfl) (e := Extern.BytealgIndexByte.indexByte) (by kernel_rfl), Lib.run_indexByteString]
  rfl
theorem s_slIndexByte (s : ByteArray) : OK Go.Proofs.Tryd.prog 150 [.str s, .int .u8 47] (fun _ _ r => r = .int .i64 (Lib.indexByte (pl s) 47)) := by
  refine fn_ok k150 rfl ?_
  have h1 := s_indexB s 47
  generalize OK Go.Proofs.Tryd.prog = L at *
  intro lo
  simp -dsimp only [↓SD, SP, ↓reduceIte, Nat.reduceEqDiff, ini, frz, rdAo, rd3o, rd2o, rdpo, rd1o, fnv, intv, VOp.dst, getRo, solEo, solo, solo1, allsz, List.all_cons, List.all_nil, Bool.and_true, beq_self_eq_true, List.length_cons, List.length_nil, Nat.zero_add, srcv, Nat.le_refl, List.take_succ_cons, List.take_zero, and_self, if_true, Nat.reduceAdd, Nat.reduceLT, eq_self, c150]
  refine call_rule h1 ?_
  rintro lo1 hi1 r - - rfl
  simp -dsimp only [↓SD, SP, ↓reduceIte, Nat.reduceEqDiff, ini, frz, rdAo, rd3o, rd2o, rdpo, rd1o, fnv, intv, VOp.dst, getRo, solEo, solo, solo1, allsz, List.all_cons, List.all_nil, Bool.and_true, beq_self_eq_true, List.length_cons, List.length_nil, Nat.zero_add, srcv, Nat.le_refl, List.take_succ_cons, List.take_zero, and_self, if_true, Nat.reduceAdd, Nat.reduceLT, eq_self]
  rfl
theorem st_size : (⟨#[47]⟩ : ByteArray).size = 1 := by decide
theorem st_at : idxv (.str ⟨#[47]⟩) (.int .i64 0) = some (.int .u8 47) := by
  exact x_str ⟨#[47]⟩ 0 (by decide)
theorem s_slIndex (s : ByteArray) : OK Go.Proofs.Tryd.prog 148 [.str s, .str ⟨#[47]⟩] (fun _ _ r => r = .int .i64 (Lib.indexByte (pl s) 47)) := by
  refine fn_ok k148 rfl ?_
  have h1 := s_slIndexByte s
  generalize OK Go.Proofs.Tryd.prog = L at *
  intro lo
  have h11 : ((1 : Nat) : Int) = 1 := rfl
  have h10 : ¬ (1 : Int) = 0 := by decide
  by_cases hq : (⟨#[47]⟩ : ByteArray) = s
  · subst hq
    simp -dsimp only [↓SD, SP, ↓reduceIte, Nat.reduceEqDiff, ini, frz, rdAo, rd3o, rd2o, rdpo, rd1o, fnv, intv, VOp.dst, getRo, solEo, solo, solo1, allsz, List.all_cons, List.all_nil, Bool.and_true, beq_self_eq_true, List.length_cons, List.length_nil, Nat.zero_add, srcv, Nat.le_refl, List.take_succ_cons, List.take_zero, and_self, if_true, Nat.reduceAdd, Nat.reduceLT, eq_self, c148, st_size, h10, h11]
    simp [pl, Lib.indexByte]
  · simp -dsimp only [↓SD, SP, ↓reduceIte, Nat.reduceEqDiff, ini, frz, rdAo, rd3o, rd2o, rdpo, rd1o, fnv, intv, VOp.dst, getRo, solEo, solo, solo1, allsz, List.all_cons, List.all_nil, Bool.and_true, beq_self_eq_true, List.length_cons, List.length_nil, Nat.zero_add, srcv, Nat.le_refl, List.take_succ_cons, List.take_zero, and_self, if_true, Nat.reduceAdd, Nat.reduceLT, eq_self, c148, st_size, hq, st_at, h10, h11]
    refine call_rule h1 ?_
    rintro lo1 hi1 r - - rfl
    simp -dsimp only [↓SD, SP, ↓reduceIte, Nat.reduceEqDiff, ini, frz, rdAo, rd3o, rd2o, rdpo, rd1o, fnv, intv, VOp.dst, getRo, solEo, solo, solo1, allsz, List.all_cons, List.all_nil, Bool.and_true, beq_self_eq_true, List.length_cons, List.length_nil, Nat.zero_add, srcv, Nat.le_refl, List.take_succ_cons, List.take_zero, and_self, if_true, Nat.reduceAdd, Nat.reduceLT, eq_self]
theorem s_index (s : ByteArray) : OK Go.Proofs.Tryd.prog 142 [.str s, .str ⟨#[47]⟩] (fun _ _ r => r = .int .i64 (Lib.indexByte (pl s) 47)) := by
  refine fn_ok k142 rfl ?_
  have h1 := s_slIndex s
  generalize OK Go.Proofs.Tryd.prog = L at *
  intro lo
  simp -dsimp only [↓SD, SP, ↓reduceIte, Nat.reduceEqDiff, ini, frz, rdAo, rd3o, rd2o, rdpo, rd1o, fnv, intv, VOp.dst, getRo, solEo, solo, solo1, allsz, List.all_cons, List.all_nil, Bool.and_true, beq_self_eq_true, List.length_cons, List.length_nil, Nat.zero_add, srcv, Nat.le_refl, List.take_succ_cons, List.take_zero, and_self, if_true, Nat.reduceAdd, Nat.reduceLT, eq_self, c142]
  refine call_rule h1 ?_
  rintro lo1 hi1 r - - rfl
  simp -dsimp only [↓SD, SP, ↓reduceIte, Nat.reduceEqDiff, ini, frz, rdAo, rd3o, rd2o, rdpo, rd1o, fnv, intv, VOp.dst, getRo, solEo, solo, solo1, allsz, List.all_cons, List.all_nil, Bool.and_true, beq_self_eq_true, List.length_cons, List.length_nil, Nat.zero_add, srcv, Nat.le_refl, List.take_succ_cons, List.take_zero, and_self, if_true, Nat.reduceAdd, Nat.reduceLT, eq_self]
theorem s_Count (s : ByteArray) : OK Go.Proofs.Tryd.prog 141 [.str s, .str ⟨#[47]⟩] (fun _ _ r => r = .int .i64 ((pl s).count 47 : Nat)) := by
  refine fn_ok k141 rfl ?_
  have h1 := s_count s 47
  generalize OK Go.Proofs.Tryd.prog = L at *
  intro lo
  simp -dsimp only [↓SD, SP, ↓reduceIte, Nat.reduceEqDiff, ini, frz, rdAo, rd3o, rd2o, rdpo, rd1o, fnv, intv, VOp.dst, getRo, solEo, solo, solo1, allsz, List.all_cons, List.all_nil, Bool.and_true, beq_self_eq_true, List.length_cons, List.length_nil, Nat.zero_add, srcv, Nat.le_refl, List.take_succ_cons, List.take_zero, and_self, if_true, Nat.reduceAdd, Nat.reduceLT, eq_self, c141, st_size, st_at, Int.natCast_one, show ¬ (1 : Int) = 0 by decide]
  refine call_rule h1 ?_
  rintro lo1 hi1 r - - rfl
  simp -dsimp only [↓SD, SP, ↓reduceIte, Nat.reduceEqDiff, ini, frz, rdAo, rd3o, rd2o, rdpo, rd1o, fnv, intv, VOp.dst, getRo, solEo, solo, solo1, allsz, List.all_cons, List.all_nil, Bool.and_true, beq_self_eq_true, List.length_cons, List.length_nil, Nat.zero_add, srcv, Nat.le_refl, List.take_succ_cons, List.take_zero, and_self, if_true, Nat.reduceAdd, Nat.reduceLT, eq_self]
  rfl
theorem s_isName (c : UInt8) : OK Go.Proofs.Tryd.prog 94 [.int .u8 c.toNat] (fun _ _ r => r = .bool (nmB c)) := by
  refine fn_ok k94 rfl ?_
  generalize OK Go.Proofs.Tryd.prog = L at *
  intro lo
  by_cases h1 : (97 : Int) ≤ c.toNat <;> by_cases h2 : (c.toNat : Int) ≤ 122 <;> by_cases h3 : (48 : Int) ≤ c.toNat <;> by_cases h4 : (c.toNat : Int) ≤ 57 <;>
    (simp -dsimp only [↓SD, SP, ↓reduceIte, Nat.reduceEqDiff, ini, frz, rdAo, rd3o, rd2o, rdpo, rd1o, fnv, intv, VOp.dst, getRo, solEo, solo, solo1, allsz, List.all_cons, List.all_nil, Bool.and_true, beq_self_eq_true, List.length_cons, List.length_nil, Nat.zero_add, srcv, Nat.le_refl, List.take_succ_cons, List.take_zero, and_self, if_true, Nat.reduceAdd, Nat.reduceLT, eq_self, c94, h1, h2, h3, h4]; refine congrArg AV.bool ?_; simp only [nmB]; first | omega | (simp; omega))
theorem nmOk_no {s : ByteArray} {i : Nat} (h : i < s.size) (hc : nmB s[i] = false) : nmOk s = false := by
  have : ¬ (s.data.toList.all nmB = true) := fun h' => by
    have := List.all_eq_true.1 h' s[i] (by rw [Array.mem_toList_iff]; exact Array.getElem_mem h)
    rw [hc] at this
    cases this
  simp [nmOk, this]
theorem nmOk_yes {s : ByteArray} (hc : ∀ j, (h : j < s.size) → nmB s[j] = true) : nmOk s = decide (1 ≤ s.size ∧ s.size ≤ 6) := by
  have : s.data.toList.all nmB = true := List.all_eq_true.2 fun x hx => by
    obtain ⟨j, hj, rfl⟩ := Array.getElem_of_mem (Array.mem_toList_iff.1 hx)
    exact hc j hj
  simp [nmOk, this]
theorem s_nameOk (s : ByteArray) (hs : s.size ≤ 1000000) : OK Go.Proofs.Tryd.prog 68 [.str s] (fun _ _ r => r = .bool (nmOk s)) := by
  refine fn_ok k68 rfl ?_
  have h1 := s_isName
  have h2 := s_within s.size 1 6
  generalize OK Go.Proofs.Tryd.prog = L at *
  intro lo
  simp -dsimp only [↓SD, SP, ↓reduceIte, Nat.reduceEqDiff, ini, frz, rdAo, rd3o, rd2o, rdpo, rd1o, fnv, intv, VOp.dst, getRo, solEo, solo, solo1, allsz, List.all_cons, List.all_nil, Bool.and_true, beq_self_eq_true, List.length_cons, List.length_nil, Nat.zero_add, srcv, Nat.le_refl, List.take_succ_cons, List.take_zero, and_self, if_true, Nat.reduceAdd, Nat.reduceLT, eq_self, c68]
  refine loop_rule (fun m E H n => ∃ i : Nat, m + i = s.size ∧ E 0 = .str s ∧ E 5 = .int .i64 s.size ∧ E 6 = .int .i64 i ∧ ∀ j, (h : j < s.size) → j < i → nmB s[j] = true)
    (fun e E H n => (e = .exit 0 ∧ E 0 = .str s ∧ nmOk s = decide (1 ≤ s.size ∧ s.size ≤ 6)) ∨ (e = .ret ∧ E 2 = .bool (nmOk s))) s.size ⟨0, rfl, rfl, rfl, rfl, fun j h h' => by omega⟩ ?_ ?_
  · rintro e E H n (⟨rfl, h0, h3⟩ | ⟨rfl, h2⟩)
    · simp -dsimp only [↓SD, SP, ↓reduceIte, Nat.reduceEqDiff, ini, frz, rdAo, rd3o, rd2o, rdpo, rd1o, fnv, intv, VOp.dst, getRo, solEo, solo, solo1, allsz, List.all_cons, List.all_nil, Bool.and_true, beq_self_eq_true, List.length_cons, List.length_nil, Nat.zero_add, srcv, Nat.le_refl, List.take_succ_cons, List.take_zero, and_self, if_true, Nat.reduceAdd, Nat.reduceLT, eq_self, h0]
      refine call_rule h2 ?_
      rintro lo1 hi1 r - - rfl
      simp -dsimp only [↓SD, SP, ↓reduceIte, Nat.reduceEqDiff, ini, frz, rdAo, rd3o, rd2o, rdpo, rd1o, fnv, intv, VOp.dst, getRo, solEo, solo, solo1, allsz, List.all_cons, List.all_nil, Bool.and_true, beq_self_eq_true, List.length_cons, List.length_nil, Nat.zero_add, srcv, Nat.le_refl, List.take_succ_cons, List.take_zero, and_self, if_true, Nat.reduceAdd, Nat.reduceLT, eq_self, h3]
      refine congrArg AV.bool (decide_eq_decide.2 ?_)
      omega
    · simp -dsimp only [↓SD, SP, ↓reduceIte, Nat.reduceEqDiff, ini, frz, rdAo, rd3o, rd2o, rdpo, rd1o, fnv, intv, VOp.dst, getRo, solEo, solo, solo1, allsz, List.all_cons, List.all_nil, Bool.and_true, beq_self_eq_true, List.length_cons, List.length_nil, Nat.zero_add, srcv, Nat.le_refl, List.take_succ_cons, List.take_zero, and_self, if_true, Nat.reduceAdd, Nat.reduceLT, eq_self, h2]
  · rintro m E H n Q K ⟨i, hm, h0, h5, h6, hp⟩ hQ hK
    by_cases hi : i < s.size
    · simp -dsimp only [↓SD, SP, ↓reduceIte, Nat.reduceEqDiff, ini, frz, rdAo, rd3o, rd2o, rdpo, rd1o, fnv, intv, VOp.dst, getRo, solEo, solo, solo1, allsz, List.all_cons, List.all_nil, Bool.and_true, beq_self_eq_true, List.length_cons, List.length_nil, Nat.zero_add, srcv, Nat.le_refl, List.take_succ_cons, List.take_zero, and_self, if_true, Nat.reduceAdd, Nat.reduceLT, eq_self, h0, h5, h6, x_str _ _ hi, Int.ofNat_lt, hi]
      refine call_rule (h1 s[i]) ?_
      rintro lo1 hi1 r - - rfl
      cases hb : nmB s[i]
      · simp -dsimp only [↓SD, SP, ↓reduceIte, Nat.reduceEqDiff, ini, frz, rdAo, rd3o, rd2o, rdpo, rd1o, fnv, intv, VOp.dst, getRo, solEo, solo, solo1, allsz, List.all_cons, List.all_nil, Bool.and_true, beq_self_eq_true, List.length_cons, List.length_nil, Nat.zero_add, srcv, Nat.le_refl, List.take_succ_cons, List.take_zero, and_self, if_true, Nat.reduceAdd, Nat.reduceLT, eq_self, hb]
        refine hQ _ _ _ _ (.inr ⟨rfl, ?_⟩)
        simp -dsimp only [↓SD, SP, ↓reduceIte, Nat.reduceEqDiff, ini, frz, rdAo, rd3o, rd2o, rdpo, rd1o, fnv, intv, VOp.dst, getRo, solEo, solo, solo1, allsz, List.all_cons, List.all_nil, Bool.and_true, beq_self_eq_true, List.length_cons, List.length_nil, Nat.zero_add, srcv, Nat.le_refl, List.take_succ_cons, List.take_zero, and_self, if_true, Nat.reduceAdd, Nat.reduceLT, eq_self, nmOk_no hi hb]
      · simp -dsimp only [↓SD, SP, ↓reduceIte, Nat.reduceEqDiff, ini, frz, rdAo, rd3o, rd2o, rdpo, rd1o, fnv, intv, VOp.dst, getRo, solEo, solo, solo1, allsz, List.all_cons, List.all_nil, Bool.and_true, beq_self_eq_true, List.length_cons, List.length_nil, Nat.zero_add, srcv, Nat.le_refl, List.take_succ_cons, List.take_zero, and_self, if_true, Nat.reduceAdd, Nat.reduceLT, eq_self, hb, h5, h6, wrap64 ((i : Int) + 1) (by omega)]
        refine hK (m - 1) _ _ _ (by omega) ⟨i + 1, by omega, by first | (simp -dsimp only [↓SD, SP, ↓reduceIte, Nat.reduceEqDiff, ini, frz, rdAo, rd3o, rd2o, rdpo, rd1o, fnv, intv, VOp.dst, getRo, solEo, solo, solo1, allsz, List.all_cons, List.all_nil, Bool.and_true, beq_self_eq_true, List.length_cons, List.length_nil, Nat.zero_add, srcv, Nat.le_refl, List.take_succ_cons, List.take_zero, and_self, if_true, Nat.reduceAdd, Nat.reduceLT, eq_self, h0]; done) | (simp -dsimp only [↓SD, SP, ↓reduceIte, Nat.reduceEqDiff, ini, frz, rdAo, rd3o, rd2o, rdpo, rd1o, fnv, intv, VOp.dst, getRo, solEo, solo, solo1, allsz, List.all_cons, List.all_nil, Bool.and_true, beq_self_eq_true, List.length_cons, List.length_nil, Nat.zero_add, srcv, Nat.le_refl, List.take_succ_cons, List.take_zero, and_self, if_true, Nat.reduceAdd, Nat.reduceLT, eq_self, h0]; rfl) | rfl, by first | (simp -dsimp only [↓SD, SP, ↓reduceIte, Nat.reduceEqDiff, ini, frz, rdAo, rd3o, rd2o, rdpo, rd1o, fnv, intv, VOp.dst, getRo, solEo, solo, solo1, allsz, List.all_cons, List.all_nil, Bool.and_true, beq_self_eq_true, List.length_cons, List.length_nil, Nat.zero_add, srcv, Nat.le_refl, List.take_succ_cons, List.take_zero, and_self, if_true, Nat.reduceAdd, Nat.reduceLT, eq_self, h5]; done) | (simp -dsimp only [↓SD, SP, ↓reduceIte, Nat.reduceEqDiff, ini, frz, rdAo, rd3o, rd2o, rdpo, rd1o, fnv, intv, VOp.dst, getRo, solEo, solo, solo1, allsz, List.all_cons, List.all_nil, Bool.and_true, beq_self_eq_true, List.length_cons, List.length_nil, Nat.zero_add, srcv, Nat.le_refl, List.take_succ_cons, List.take_zero, and_self, if_true, Nat.reduceAdd, Nat.reduceLT, eq_self, h5]; rfl) | rfl, by first | (simp -dsimp only [↓SD, SP, ↓reduceIte, Nat.reduceEqDiff, ini, frz, rdAo, rd3o, rd2o, rdpo, rd1o, fnv, intv, VOp.dst, getRo, solEo, solo, solo1, allsz, List.all_cons, List.all_nil, Bool.and_true, beq_self_eq_true, List.length_cons, List.length_nil, Nat.zero_add, srcv, Nat.le_refl, List.take_succ_cons, List.take_zero, and_self, if_true, Nat.reduceAdd, Nat.reduceLT, eq_self, Int.natCast_add, Int.natCast_one]; done) | (simp -dsimp only [↓SD, SP, ↓reduceIte, Nat.reduceEqDiff, ini, frz, rdAo, rd3o, rd2o, rdpo, rd1o, fnv, intv, VOp.dst, getRo, solEo, solo, solo1, allsz, List.all_cons, List.all_nil, Bool.and_true, beq_self_eq_true, List.length_cons, List.length_nil, Nat.zero_add, srcv, Nat.le_refl, List.take_succ_cons, List.take_zero, and_self, if_true, Nat.reduceAdd, Nat.reduceLT, eq_self, Int.natCast_add, Int.natCast_one]; rfl) | rfl, fun j h hj => ?_⟩
        rcases Nat.lt_or_ge j i with h' | h'
        · exact hp j h h'
        · obtain rfl : j = i := by omega
          exact hb
    · simp -dsimp only [↓SD, SP, ↓reduceIte, Nat.reduceEqDiff, ini, frz, rdAo, rd3o, rd2o, rdpo, rd1o, fnv, intv, VOp.dst, getRo, solEo, solo, solo1, allsz, List.all_cons, List.all_nil, Bool.and_true, beq_self_eq_true, List.length_cons, List.length_nil, Nat.zero_add, srcv, Nat.le_refl, List.take_succ_cons, List.take_zero, and_self, if_true, Nat.reduceAdd, Nat.reduceLT, eq_self, h0, h5, h6, Int.ofNat_lt, hi]
      exact hQ _ _ _ _ (.inl ⟨rfl, h0, nmOk_yes fun j h => hp j h (by omega)⟩)
theorem s_pathOk1 (s : ByteArray) (hs : s.size ≤ 1000000) : OK Go.Proofs.Tryd.prog 118 [.str s] (fun _ _ r => r = .bool (!nmOk s)) := by
  refine fn_ok k118 rfl ?_
  have h1 := s_nameOk s hs
  generalize OK Go.Proofs.Tryd.prog = L at *
  intro lo
  simp -dsimp only [↓SD, SP, ↓reduceIte, Nat.reduceEqDiff, ini, frz, rdAo, rd3o, rd2o, rdpo, rd1o, fnv, intv, VOp.dst, getRo, solEo, solo, solo1, allsz, List.all_cons, List.all_nil, Bool.and_true, beq_self_eq_true, List.length_cons, List.length_nil, Nat.zero_add, srcv, Nat.le_refl, List.take_succ_cons, List.take_zero, and_self, if_true, Nat.reduceAdd, Nat.reduceLT, eq_self, c118]
  refine call_rule h1 ?_
  rintro lo1 hi1 r - - rfl
  simp -dsimp only [↓SD, SP, ↓reduceIte, Nat.reduceEqDiff, ini, frz, rdAo, rd3o, rd2o, rdpo, rd1o, fnv, intv, VOp.dst, getRo, solEo, solo, solo1, allsz, List.all_cons, List.all_nil, Bool.and_true, beq_self_eq_true, List.length_cons, List.length_nil, Nat.zero_add, srcv, Nat.le_refl, List.take_succ_cons, List.take_zero, and_self, if_true, Nat.reduceAdd, Nat.reduceLT, eq_self]
theorem ex_s (s : ByteArray) (i j : Nat) (hj : j ≤ s.size) : s.extract i j = mkB (((pl s).drop i).take (j - i)) := by
  have := ex_mkB (pl s) i j (by rw [pl_len]; exact hj)
  rwa [mkB_data] at this
theorem splitL_sz {l : List UInt8} : ∀ x ∈ splitL l, x.length ≤ l.length := by
  induction l with
  | nil => intro x hx; simp [splitL] at hx; subst hx; simp
  | cons b l ih =>
    intro x hx
    unfold splitL at hx
    split at hx
    · rcases List.mem_cons.1 hx with rfl | hx
      · simp
      · have := ih x hx; simp; omega
    · split at hx
      · rename_i y ys he
        rw [he] at ih
        rcases List.mem_cons.1 hx with rfl | hx
        · have := ih y List.mem_cons_self; simpa using this
        · have := ih x (List.mem_cons_of_mem _ hx); simp; omega
      · simp at hx; subst hx; simp
theorem pieces_sz {s : ByteArray} : ∀ x ∈ pieces s, x.size ≤ s.size := by
  intro x hx
  obtain ⟨y, hy, rfl⟩ := List.mem_map.1 hx
  have := splitL_sz y hy
  rw [mkB_size, ← pl_len]
  exact this
theorem pieces_len (s : ByteArray) : (pieces s).length = (pl s).count 47 + 1 := by
  unfold pieces
  rw [List.length_map, splitL_len]
theorem count_le (s : ByteArray) : (pl s).count 47 ≤ s.size := by
  rw [← pl_len]
  exact List.count_le_length
theorem s_genSplit (s : ByteArray) (hs : s.size ≤ 1000000) : OK Go.Proofs.Tryd.prog 130 [.str s, .str ⟨#[47]⟩, .int .i64 0, .int .i64 (-1)] (fun lo hi r => RStr lo hi (pieces s) r) := by
  refine fn_ok k130 rfl ?_
  have h1 := s_Count s
  have h2 := s_index
  generalize OK Go.Proofs.Tryd.prog = L at *
  intro lo
  have hc := count_le s
  have hne : ¬ (⟨#[47]⟩ : ByteArray) = ⟨#[]⟩ := by decide
  have hN : (pieces s).length = (pl s).count 47 + 1 := pieces_len s
  generalize hcn : (pl s).count 47 = c at *
  simp -dsimp only [↓SD, SP, ↓reduceIte, Nat.reduceEqDiff, ini, frz, rdAo, rd3o, rd2o, rdpo, rd1o, fnv, intv, VOp.dst, getRo, solEo, solo, solo1, allsz, List.all_cons, List.all_nil, Bool.and_true, beq_self_eq_true, List.length_cons, List.length_nil, Nat.zero_add, srcv, Nat.le_refl, List.take_succ_cons, List.take_zero, and_self, if_true, Nat.reduceAdd, Nat.reduceLT, eq_self, c130, hne, show ¬ (-1 : Int) = 0 by decide, show (-1 : Int) < 0 by decide]
  refine call_rule h1 ?_
  rintro lo1 hi1 r p1 p2 rfl
  have hmx : mxv false (.int .i64 ((c : Int) + 1)) (.int .i64 ((s.size : Int) + 1)) = some (.int .i64 ((c : Int) + 1)) := by
    simp [mxv]
    omega
  simp -dsimp only [↓SD, SP, ↓reduceIte, Nat.reduceEqDiff, ini, frz, rdAo, rd3o, rd2o, rdpo, rd1o, fnv, intv, VOp.dst, getRo, solEo, solo, solo1, allsz, List.all_cons, List.all_nil, Bool.and_true, beq_self_eq_true, List.length_cons, List.length_nil, Nat.zero_add, srcv, Nat.le_refl, List.take_succ_cons, List.take_zero, and_self, if_true, Nat.reduceAdd, Nat.reduceLT, eq_self, wrap64 ((c : Int) + 1) (by omega), wrap64 ((s.size : Int) + 1) (by omega), hmx]
  refine mk_at (by omega) ?_
  intro g hg
  simp -dsimp only [↓SD, SP, ↓reduceIte, Nat.reduceEqDiff, ini, frz, rdAo, rd3o, rd2o, rdpo, rd1o, fnv, intv, VOp.dst, getRo, solEo, solo, solo1, allsz, List.all_cons, List.all_nil, Bool.and_true, beq_self_eq_true, List.length_cons, List.length_nil, Nat.zero_add, srcv, Nat.le_refl, List.take_succ_cons, List.take_zero, and_self, if_true, Nat.reduceAdd, Nat.reduceLT, eq_self, wrap64 ((c : Int) + 1 - 1) (by omega)]
  refine loop_rule (fun m E H n => ∃ (i : Nat) (l : List UInt8), m + i = c ∧ E 0 = .str (mkB l) ∧ E 1 = .str ⟨#[47]⟩ ∧ E 2 = .int .i64 0 ∧ E 3 = .int .i64 c ∧ E 9 = .own 31 g 1 (c + 1) ∧ E 10 = .int .i64 i ∧ g < n ∧ l.length ≤ 1000000 ∧ i + (splitL l).length = c + 1 ∧
        (pieces s).drop i = (splitL l).map mkB ∧ H 31 = some ⟨g, 1, ((pieces s).take i ++ List.replicate (m + 1) (⟨#[]⟩ : ByteArray)).map .str, false, true, true⟩)
    (fun e E H n => e = .exit 0 ∧ ∃ (l : List UInt8), E 0 = .str (mkB l) ∧ E 9 = .own 31 g 1 (c + 1) ∧ E 10 = .int .i64 c ∧ g < n ∧ (pieces s).drop c = [mkB l] ∧ H 31 = some ⟨g, 1, ((pieces s).take c ++ List.replicate 1 (⟨#[]⟩ : ByteArray)).map .str, false, true, true⟩)
    c ⟨0, pl s, rfl, ?_, rfl, rfl, ?_, ?_, rfl, by omega, by rw [pl_len]; exact hs, ?_, rfl, ?_⟩ ?_ ?_
  · simp -dsimp only [↓SD, SP, ↓reduceIte, Nat.reduceEqDiff, ini, frz, rdAo, rd3o, rd2o, rdpo, rd1o, fnv, intv, VOp.dst, getRo, solEo, solo, solo1, allsz, List.all_cons, List.all_nil, Bool.and_true, beq_self_eq_true, List.length_cons, List.length_nil, Nat.zero_add, srcv, Nat.le_refl, List.take_succ_cons, List.take_zero, and_self, if_true, Nat.reduceAdd, Nat.reduceLT, eq_self, mkB_data]
  · simp -dsimp only [↓SD, SP, ↓reduceIte, Nat.reduceEqDiff, ini, frz, rdAo, rd3o, rd2o, rdpo, rd1o, fnv, intv, VOp.dst, getRo, solEo, solo, solo1, allsz, List.all_cons, List.all_nil, Bool.and_true, beq_self_eq_true, List.length_cons, List.length_nil, Nat.zero_add, srcv, Nat.le_refl, List.take_succ_cons, List.take_zero, and_self, if_true, Nat.reduceAdd, Nat.reduceLT, eq_self, show (c : Int) + 1 - 1 = c by omega]
  · simp -dsimp only [↓SD, SP, ↓reduceIte, Nat.reduceEqDiff, ini, frz, rdAo, rd3o, rd2o, rdpo, rd1o, fnv, intv, VOp.dst, getRo, solEo, solo, solo1, allsz, List.all_cons, List.all_nil, Bool.and_true, beq_self_eq_true, List.length_cons, List.length_nil, Nat.zero_add, srcv, Nat.le_refl, List.take_succ_cons, List.take_zero, and_self, if_true, Nat.reduceAdd, Nat.reduceLT, eq_self, show ((c : Int) + 1).toNat = c + 1 by omega]
  · rw [splitL_len, hcn]; omega
  · simp -dsimp only [↓SD, SP, ↓reduceIte, Nat.reduceEqDiff, ini, frz, rdAo, rd3o, rd2o, rdpo, rd1o, fnv, intv, VOp.dst, getRo, solEo, solo, solo1, allsz, List.all_cons, List.all_nil, Bool.and_true, beq_self_eq_true, List.length_cons, List.length_nil, Nat.zero_add, srcv, Nat.le_refl, List.take_succ_cons, List.take_zero, and_self, if_true, Nat.reduceAdd, Nat.reduceLT, eq_self, show ((c : Int) + 1).toNat = c + 1 by omega, List.take_zero, List.map_replicate, List.nil_append]
  · rintro e E H n ⟨rfl, l, h0, h9, h10, hgn, hd, hH⟩
    have hcl : c < (pieces s).length := by omega
    have hlast : (pieces s).take c ++ [mkB l] = pieces s := by rw [← hd, List.take_append_drop]
    simp -dsimp only [↓SD, SP, ↓reduceIte, Nat.reduceEqDiff, ini, frz, rdAo, rd3o, rd2o, rdpo, rd1o, fnv, intv, VOp.dst, getRo, solEo, solo, solo1, allsz, List.all_cons, List.all_nil, Bool.and_true, beq_self_eq_true, List.length_cons, List.length_nil, Nat.zero_add, srcv, Nat.le_refl, List.take_succ_cons, List.take_zero, and_self, if_true, Nat.reduceAdd, Nat.reduceLT, eq_self, h0, h9, h10, x_own _ _ _ _ _ (show c < c + 1 by omega), st_str (i := c) (x := mkB l) hH (by simp; omega), wrap64 ((c : Int) + 1) (by omega)]
    have hset : ((pieces s).take c ++ List.replicate 1 (⟨#[]⟩ : ByteArray)).set c (mkB l) = pieces s := by
      rw [List.set_append_right _ _ (by simp; omega), List.length_take, Nat.min_eq_left (by omega), Nat.sub_self]
      exact hlast
    have hsl : ∀ H : Hp, H 31 = some ⟨g, 1, (pieces s).map .str, false, true, true⟩ → slcv H 1 (.own 31 g 1 (c + 1)) none (some (.int .i64 ((c : Int) + 1))) = some (.own 31 g 1 (c + 1)) := fun H hH => by
      simp [slcv, hH, hN, show ((c : Int) + 1).toNat = c + 1 by omega]
      omega
    rw [hset]
    simp -dsimp only [↓SD, SP, ↓reduceIte, Nat.reduceEqDiff, ini, frz, rdAo, rd3o, rd2o, rdpo, rd1o, fnv, intv, VOp.dst, getRo, solEo, solo, solo1, allsz, List.all_cons, List.all_nil, Bool.and_true, beq_self_eq_true, List.length_cons, List.length_nil, Nat.zero_add, srcv, Nat.le_refl, List.take_succ_cons, List.take_zero, and_self, if_true, Nat.reduceAdd, Nat.reduceLT, eq_self, h9, h10, hsl, hN, List.length_map]
    exact .inr ⟨g, by omega, by omega, by rw [hN]⟩
  · rintro m E H n Q K ⟨i, l, hm, h0, h1', h2', h3, h9, h10, hgn, hll, hlen, hd, hH⟩ hQ hK
    cases m with
    | zero =>
      obtain rfl : i = c := by omega
      simp -dsimp only [↓SD, SP, ↓reduceIte, Nat.reduceEqDiff, ini, frz, rdAo, rd3o, rd2o, rdpo, rd1o, fnv, intv, VOp.dst, getRo, solEo, solo, solo1, allsz, List.all_cons, List.all_nil, Bool.and_true, beq_self_eq_true, List.length_cons, List.length_nil, Nat.zero_add, srcv, Nat.le_refl, List.take_succ_cons, List.take_zero, and_self, if_true, Nat.reduceAdd, Nat.reduceLT, eq_self, h10, h3, Int.ofNat_lt, Nat.lt_irrefl]
      obtain ⟨x, hx⟩ := List.length_eq_one_iff.1 (show (splitL l).length = 1 by omega)
      have hxl : x = l := by
        cases hi : Lib.indexByte l 47 with
        | ofNat m =>
          obtain ⟨_, h2⟩ := splitL_some (m := m) hi
          rw [h2] at hx
          exact absurd (List.cons.inj hx).2 (splitL_ne _)
        | negSucc k =>
          have := Lib.indexByte_ge l 47
          rw [splitL_none (by omega)] at hx
          exact (List.cons.inj hx).1.symm
      subst hxl
      refine hQ _ _ _ _ ⟨rfl, x, h0, h9, h10, hgn, by rw [hd, hx]; rfl, hH⟩
    | succ m =>
      have hic : i < c := by omega
      simp -dsimp only [↓SD, SP, ↓reduceIte, Nat.reduceEqDiff, ini, frz, rdAo, rd3o, rd2o, rdpo, rd1o, fnv, intv, VOp.dst, getRo, solEo, solo, solo1, allsz, List.all_cons, List.all_nil, Bool.and_true, beq_self_eq_true, List.length_cons, List.length_nil, Nat.zero_add, srcv, Nat.le_refl, List.take_succ_cons, List.take_zero, and_self, if_true, Nat.reduceAdd, Nat.reduceLT, eq_self, h0, h1', h3, h10, Int.ofNat_lt, hic]
      refine call_rule (h2 (mkB l)) ?_
      rintro lo2 hi2 r p3 p4 rfl
      rw [show pl (mkB l) = l from mkB_list l]
      obtain ⟨k, hk⟩ : ∃ k : Nat, Lib.indexByte l 47 = k := by
        cases hi : Lib.indexByte l 47 with
        | ofNat m => exact ⟨m, rfl⟩
        | negSucc k =>
          have := Lib.indexByte_ge l 47
          rw [splitL_none (by omega)] at hlen
          simp at hlen
          omega
      obtain ⟨hkl, hsp⟩ := splitL_some hk
      have hsz : (mkB l).size = l.length := mkB_size l
      have hpi : (pieces s)[i]? = some (mkB (l.take k)) := by
        have := congrArg List.head? hd
        rw [List.head?_drop, hsp] at this
        simpa using this
      have hil : i < (pieces s).length := by omega
      have hpe : (pieces s)[i] = mkB (l.take k) := by
        rw [List.getElem?_eq_getElem hil] at hpi
        exact Option.some.inj hpi
      have x1 : ∀ H : Hp, slcv H 0 (.str (mkB l)) none (some (.int .i64 k)) = some (.str (mkB (l.take k))) := fun H => by
        have e := ex_mkB l 0 k (by omega)
        simp only [List.drop_zero, Nat.sub_zero] at e
        simp [slcv, e, hsz]
        omega
      have x2 : ∀ H : Hp, slcv H 0 (.str (mkB l)) (some (.int .i64 ((k : Int) + 1))) none = some (.str (mkB (l.drop (k + 1)))) := fun H => by
        have e := ex_mkB l (k + 1) l.length (by omega)
        rw [List.take_of_length_le (by simp)] at e
        simp [slcv, hsz, show ((k : Int) + 1).toNat = k + 1 by omega, e]
        omega
      simp -dsimp only [↓SD, SP, ↓reduceIte, Nat.reduceEqDiff, ini, frz, rdAo, rd3o, rd2o, rdpo, rd1o, fnv, intv, VOp.dst, getRo, solEo, solo, solo1, allsz, List.all_cons, List.all_nil, Bool.and_true, beq_self_eq_true, List.length_cons, List.length_nil, Nat.zero_add, srcv, Nat.le_refl, List.take_succ_cons, List.take_zero, and_self, if_true, Nat.reduceAdd, Nat.reduceLT, eq_self, hk, show ¬ (k : Int) < 0 by omega, h0, h1', h2', h9, h10, wrap64 (k : Int) (by omega), Int.add_zero, x1, x2, st_size, Int.natCast_one, x_own _ _ _ _ _ (show i < c + 1 by omega), st_str (i := i) (x := mkB (l.take k)) hH (by simp; omega), wrap64 ((k : Int) + 1) (by omega), wrap64 ((i : Int) + 1) (by omega)]
      refine hK m _ _ _ rfl ⟨i + 1, l.drop (k + 1), by omega, by first | (simp -dsimp only [↓SD, SP, ↓reduceIte, Nat.reduceEqDiff, ini, frz, rdAo, rd3o, rd2o, rdpo, rd1o, fnv, intv, VOp.dst, getRo, solEo, solo, solo1, allsz, List.all_cons, List.all_nil, Bool.and_true, beq_self_eq_true, List.length_cons, List.length_nil, Nat.zero_add, srcv, Nat.le_refl, List.take_succ_cons, List.take_zero, and_self, if_true, Nat.reduceAdd, Nat.reduceLT, eq_self]; done) | (simp -dsimp only [↓SD, SP, ↓reduceIte, Nat.reduceEqDiff, ini, frz, rdAo, rd3o, rd2o, rdpo, rd1o, fnv, intv, VOp.dst, getRo, solEo, solo, solo1, allsz, List.all_cons, List.all_nil, Bool.and_true, beq_self_eq_true, List.length_cons, List.length_nil, Nat.zero_add, srcv, Nat.le_refl, List.take_succ_cons, List.take_zero, and_self, if_true, Nat.reduceAdd, Nat.reduceLT, eq_self]; rfl) | rfl, by first | (simp -dsimp only [↓SD, SP, ↓reduceIte, Nat.reduceEqDiff, ini, frz, rdAo, rd3o, rd2o, rdpo, rd1o, fnv, intv, VOp.dst, getRo, solEo, solo, solo1, allsz, List.all_cons, List.all_nil, Bool.and_true, beq_self_eq_true, List.length_cons, List.length_nil, Nat.zero_add, srcv, Nat.le_refl, List.take_succ_cons, List.take_zero, and_self, if_true, Nat.reduceAdd, Nat.reduceLT, eq_self, h1']; done) | (simp -dsimp only [↓SD, SP, ↓reduceIte, Nat.reduceEqDiff, ini, frz, rdAo, rd3o, rd2o, rdpo, rd1o, fnv, intv, VOp.dst, getRo, solEo, solo, solo1, allsz, List.all_cons, List.all_nil, Bool.and_true, beq_self_eq_true, List.length_cons, List.length_nil, Nat.zero_add, srcv, Nat.le_refl, List.take_succ_cons, List.take_zero, and_self, if_true, Nat.reduceAdd, Nat.reduceLT, eq_self, h1']; rfl) | rfl, by first | (simp -dsimp only [↓SD, SP, ↓reduceIte, Nat.reduceEqDiff, ini, frz, rdAo, rd3o, rd2o, rdpo, rd1o, fnv, intv, VOp.dst, getRo, solEo, solo, solo1, allsz, List.all_cons, List.all_nil, Bool.and_true, beq_self_eq_true, List.length_cons, List.length_nil, Nat.zero_add, srcv, Nat.le_refl, List.take_succ_cons, List.take_zero, and_self, if_true, Nat.reduceAdd, Nat.reduceLT, eq_self, h2']; done) | (simp -dsimp only [↓SD, SP, ↓reduceIte, Nat.reduceEqDiff, ini, frz, rdAo, rd3o, rd2o, rdpo, rd1o, fnv, intv, VOp.dst, getRo, solEo, solo, solo1, allsz, List.all_cons, List.all_nil, Bool.and_true, beq_self_eq_true, List.length_cons, List.length_nil, Nat.zero_add, srcv, Nat.le_refl, List.take_succ_cons, List.take_zero, and_self, if_true, Nat.reduceAdd, Nat.reduceLT, eq_self, h2']; rfl) | rfl, by first | (simp -dsimp only [↓SD, SP, ↓reduceIte, Nat.reduceEqDiff, ini, frz, rdAo, rd3o, rd2o, rdpo, rd1o, fnv, intv, VOp.dst, getRo, solEo, solo, solo1, allsz, List.all_cons, List.all_nil, Bool.and_true, beq_self_eq_true, List.length_cons, List.length_nil, Nat.zero_add, srcv, Nat.le_refl, List.take_succ_cons, List.take_zero, and_self, if_true, Nat.reduceAdd, Nat.reduceLT, eq_self, h3]; done) | (simp -dsimp only [↓SD, SP, ↓reduceIte, Nat.reduceEqDiff, ini, frz, rdAo, rd3o, rd2o, rdpo, rd1o, fnv, intv, VOp.dst, getRo, solEo, solo, solo1, allsz, List.all_cons, List.all_nil, Bool.and_true, beq_self_eq_true, List.length_cons, List.length_nil, Nat.zero_add, srcv, Nat.le_refl, List.take_succ_cons, List.take_zero, and_self, if_true, Nat.reduceAdd, Nat.reduceLT, eq_self, h3]; rfl) | rfl, by first | (simp -dsimp only [↓SD, SP, ↓reduceIte, Nat.reduceEqDiff, ini, frz, rdAo, rd3o, rd2o, rdpo, rd1o, fnv, intv, VOp.dst, getRo, solEo, solo, solo1, allsz, List.all_cons, List.all_nil, Bool.and_true, beq_self_eq_true, List.length_cons, List.length_nil, Nat.zero_add, srcv, Nat.le_refl, List.take_succ_cons, List.take_zero, and_self, if_true, Nat.reduceAdd, Nat.reduceLT, eq_self, h9]; done) | (simp -dsimp only [↓SD, SP, ↓reduceIte, Nat.reduceEqDiff, ini, frz, rdAo, rd3o, rd2o, rdpo, rd1o, fnv, intv, VOp.dst, getRo, solEo, solo, solo1, allsz, List.all_cons, List.all_nil, Bool.and_true, beq_self_eq_true, List.length_cons, List.length_nil, Nat.zero_add, srcv, Nat.le_refl, List.take_succ_cons, List.take_zero, and_self, if_true, Nat.reduceAdd, Nat.reduceLT, eq_self, h9]; rfl) | rfl, by first | (simp -dsimp only [↓SD, SP, ↓reduceIte, Nat.reduceEqDiff, ini, frz, rdAo, rd3o, rd2o, rdpo, rd1o, fnv, intv, VOp.dst, getRo, solEo, solo, solo1, allsz, List.all_cons, List.all_nil, Bool.and_true, beq_self_eq_true, List.length_cons, List.length_nil, Nat.zero_add, srcv, Nat.le_refl, List.take_succ_cons, List.take_zero, and_self, if_true, Nat.reduceAdd, Nat.reduceLT, eq_self, Int.natCast_add, Int.natCast_one]; done) | (simp -dsimp only [↓SD, SP, ↓reduceIte, Nat.reduceEqDiff, ini, frz, rdAo, rd3o, rd2o, rdpo, rd1o, fnv, intv, VOp.dst, getRo, solEo, solo, solo1, allsz, List.all_cons, List.all_nil, Bool.and_true, beq_self_eq_true, List.length_cons, List.length_nil, Nat.zero_add, srcv, Nat.le_refl, List.take_succ_cons, List.take_zero, and_self, if_true, Nat.reduceAdd, Nat.reduceLT, eq_self, Int.natCast_add, Int.natCast_one]; rfl) | rfl, by omega, by simp; omega, ?_, ?_, ?_⟩
      · rw [hsp] at hlen
        simp at hlen
        omega
      · rw [← List.drop_drop, hd, hsp]
        rfl
      · simp -dsimp only [↓SD, SP, ↓reduceIte, Nat.reduceEqDiff, ini, frz, rdAo, rd3o, rd2o, rdpo, rd1o, fnv, intv, VOp.dst, getRo, solEo, solo, solo1, allsz, List.all_cons, List.all_nil, Bool.and_true, beq_self_eq_true, List.length_cons, List.length_nil, Nat.zero_add, srcv, Nat.le_refl, List.take_succ_cons, List.take_zero, and_self, if_true, Nat.reduceAdd, Nat.reduceLT, eq_self]
        rw [← hpe, show m + 1 + 1 = (m + 1) + 1 by rfl, set_take hil]
theorem s_split (s : ByteArray) (hs : s.size ≤ 1000000) : OK Go.Proofs.Tryd.prog 117 [.str s, .str ⟨#[47]⟩] (fun lo hi r => RStr lo hi (pieces s) r) := by
  refine fn_ok k117 rfl ?_
  have h1 := s_genSplit s hs
  generalize OK Go.Proofs.Tryd.prog = L at *
  intro lo
  simp -dsimp only [↓SD, SP, ↓reduceIte, Nat.reduceEqDiff, ini, frz, rdAo, rd3o, rd2o, rdpo, rd1o, fnv, intv, VOp.dst, getRo, solEo, solo, solo1, allsz, List.all_cons, List.all_nil, Bool.and_true, beq_self_eq_true, List.length_cons, List.length_nil, Nat.zero_add, srcv, Nat.le_refl, List.take_succ_cons, List.take_zero, and_self, if_true, Nat.reduceAdd, Nat.reduceLT, eq_self, c117]
  refine call_rule h1 ?_
  rintro lo1 hi1 r p1 p2 hr
  have e1 := fun H => sol_wk (fl := false) hr.wk (strs_pl _) H
  simp -dsimp only [↓SD, SP, ↓reduceIte, Nat.reduceEqDiff, ini, frz, rdAo, rd3o, rd2o, rdpo, rd1o, fnv, intv, VOp.dst, getRo, solEo, solo, solo1, allsz, List.all_cons, List.all_nil, Bool.and_true, beq_self_eq_true, List.length_cons, List.length_nil, Nat.zero_add, srcv, Nat.le_refl, List.take_succ_cons, List.take_zero, and_self, if_true, Nat.reduceAdd, Nat.reduceLT, eq_self, ↓r_any, ↓e1]
  exact hr.mono (by omega) (Nat.le_refl _)
theorem s_implPathOk (s : ByteArray) (hs : s.size ≤ 1000000) : OK Go.Proofs.Tryd.prog 95 [.str s] (fun _ _ r => r = .bool (pathOk s)) := by
  refine fn_ok k95 rfl ?_
  have h1 := s_split s hs
  have hl := pieces_len s
  have hc := count_le s
  have h2 := fun (h3 : (pieces s).length ≤ 3) => s55 (fun s => !nmOk s) 118 (pieces s) ⟨by omega, fun x hx => by have := pieces_sz x hx; omega⟩ (fun x hx => s_pathOk1 x (by have := pieces_sz x hx; omega))
  intro lo
  simp -dsimp only [↓SD, SP, ↓reduceIte, Nat.reduceEqDiff, ini, frz, rdAo, rd3o, rd2o, rdpo, rd1o, fnv, intv, VOp.dst, getRo, solEo, solo, solo1, allsz, List.all_cons, List.all_nil, Bool.and_true, beq_self_eq_true, List.length_cons, List.length_nil, Nat.zero_add, srcv, Nat.le_refl, List.take_succ_cons, List.take_zero, and_self, if_true, Nat.reduceAdd, Nat.reduceLT, eq_self, c95]
  refine call_rule h1 ?_
  rintro lo1 hi1 r p1 p2 hr
  obtain ⟨q1, e1, u1⟩ := rd_wk (fl := false) hr.wk (strs_pl _) (fun _ => none)
  have hlen : lenv false r = some (pieces s).length := by
    rcases hr with ⟨h0, rfl⟩ | ⟨g, _, _, rfl⟩
    · rw [h0]; rfl
    · rfl
  by_cases hd : ((pieces s).length : Int) ≤ 3
  · simp -dsimp only [↓SD, SP, ↓reduceIte, Nat.reduceEqDiff, ini, frz, rdAo, rd3o, rd2o, rdpo, rd1o, fnv, intv, VOp.dst, getRo, solEo, solo, solo1, allsz, List.all_cons, List.all_nil, Bool.and_true, beq_self_eq_true, List.length_cons, List.length_nil, Nat.zero_add, srcv, Nat.le_refl, List.take_succ_cons, List.take_zero, and_self, if_true, Nat.reduceAdd, Nat.reduceLT, eq_self, ↓r_any, hlen, hd, ↓e1, rds2o]
    refine call_rule (OK.wk (h2 (by omega)) (.cons u1 (.cons (.refl _) .nil))) ?_
    rintro lo2 hi2 r p3 p4 rfl
    simp -dsimp only [↓SD, SP, ↓reduceIte, Nat.reduceEqDiff, ini, frz, rdAo, rd3o, rd2o, rdpo, rd1o, fnv, intv, VOp.dst, getRo, solEo, solo, solo1, allsz, List.all_cons, List.all_nil, Bool.and_true, beq_self_eq_true, List.length_cons, List.length_nil, Nat.zero_add, srcv, Nat.le_refl, List.take_succ_cons, List.take_zero, and_self, if_true, Nat.reduceAdd, Nat.reduceLT, eq_self]
    simp [pathOk, show (pieces s).length ≤ 3 by omega, List.any_eq_not_all_not]
  · simp -dsimp only [↓SD, SP, ↓reduceIte, Nat.reduceEqDiff, ini, frz, rdAo, rd3o, rd2o, rdpo, rd1o, fnv, intv, VOp.dst, getRo, solEo, solo, solo1, allsz, List.all_cons, List.all_nil, Bool.and_true, beq_self_eq_true, List.length_cons, List.length_nil, Nat.zero_add, srcv, Nat.le_refl, List.take_succ_cons, List.take_zero, and_self, if_true, Nat.reduceAdd, Nat.reduceLT, eq_self, ↓r_any, hlen, hd]
    simp [pathOk, show ¬ (pieces s).length ≤ 3 by omega]
end Go.AVM

/- Paths: what the reference's functions give. -/
set_option linter.unusedSimpArgs false
set_option linter.unusedVariables false
namespace Go.AVM
/-- cut while going through: so many cuts to come, what is ahead of here since the last -/
def scanL : Nat → List UInt8 → List UInt8 → List (List UInt8)
  | _, cur, [] => [cur]
  | 0, cur, b :: l => [cur ++ b :: l]
  | k + 1, cur, b :: l => if b = 47 then cur :: scanL k [] l else scanL (k + 1) (cur ++ [b]) l
theorem cutL_ne : ∀ (k : Nat) (l : List UInt8), cutL k l ≠ []
  | 0, l => by simp [cutL]
  | k + 1, l => by
    unfold cutL
    split <;> simp
theorem ix_here (l : List UInt8) : Lib.indexByte (47 :: l) 47 = ((0 : Nat) : Int) := by
  unfold Lib.indexByte
  simp
theorem ix_next {b : UInt8} {l : List UInt8} (hb : ¬ b = 47) : Lib.indexByte (b :: l) 47 = if Lib.indexByte l 47 = -1 then -1 else Lib.indexByte l 47 + 1 := by
  have hb' : (b == (47 : UInt8)) = false := by simpa using hb
  rw [Lib.indexByte, hb']
  simp
theorem cutL_none {k : Nat} {l : List UInt8} (h : Lib.indexByte l 47 = -1) : cutL k l = [l] := by
  cases k with
  | zero => rfl
  | succ k =>
    rw [cutL, h]
    rfl
theorem cutL_some {k m : Nat} {l : List UInt8} (h : Lib.indexByte l 47 = m) : cutL (k + 1) l = l.take m :: cutL k (l.drop (m + 1)) := by
  rw [cutL, h]
theorem scan_cut : ∀ (l : List UInt8) (k : Nat) (cur x : List UInt8) (xs : List (List UInt8)), cutL k l = x :: xs → scanL k cur l = (cur ++ x) :: xs
  | [], k, cur, x, xs, h => by
    rw [cutL_none (by rfl)] at h
    obtain ⟨rfl, rfl⟩ := List.cons.inj h
    simp [scanL]
  | b :: l, 0, cur, x, xs, h => by
    obtain ⟨rfl, rfl⟩ := List.cons.inj (show [b :: l] = x :: xs from h)
    simp [scanL]
  | b :: l, k + 1, cur, x, xs, h => by
    rw [scanL]
    by_cases hb : b = 47
    · subst hb
      rw [if_pos rfl]
      rw [cutL_some (ix_here l)] at h
      simp only [List.take_zero, List.drop_succ_cons, List.drop_zero] at h
      obtain ⟨rfl, rfl⟩ := List.cons.inj h
      rw [List.append_nil]
      cases hc : cutL k l with
      | nil => exact absurd hc (cutL_ne _ _)
      | cons y ys => rw [scan_cut l k [] y ys hc]; rfl
    · rw [if_neg hb]
      by_cases hn : Lib.indexByte l 47 = -1
      · have h2 : Lib.indexByte (b :: l) 47 = -1 := by rw [ix_next hb, if_pos hn]
        rw [cutL_none h2] at h
        obtain ⟨rfl, rfl⟩ := List.cons.inj h
        rw [scan_cut l (k + 1) _ l [] (cutL_none hn)]
        simp
      · have hg := Lib.indexByte_ge l 47
        obtain ⟨m, hm⟩ := Int.eq_ofNat_of_zero_le (show 0 ≤ Lib.indexByte l 47 by omega)
        have h2 : Lib.indexByte (b :: l) 47 = ((m + 1 : Nat) : Int) := by rw [ix_next hb, if_neg hn, hm]; rfl
        rw [cutL_some h2] at h
        simp only [List.take_succ_cons, List.drop_succ_cons] at h
        obtain ⟨rfl, rfl⟩ := List.cons.inj h
        rw [scan_cut l (k + 1) _ _ _ (cutL_some hm)]
        simp
theorem scan_nil (k : Nat) (l : List UInt8) : scanL k [] l = cutL k l := by
  cases hc : cutL k l with
  | nil => exact absurd hc (cutL_ne _ _)
  | cons y ys => rw [scan_cut l k [] y ys hc]; rfl
theorem s_l1Cut (s : ByteArray) (hs : s.size ≤ 1000000) : OK Go.Proofs.Tryd.prog 115 [.str s, .int .u8 47, .int .i64 3] (fun lo hi r => RStr lo hi ((cutL 3 (pl s)).map mkB) r) := by
  refine fn_ok k115 rfl ?_
  generalize OK Go.Proofs.Tryd.prog = L at *
  intro lo
  have hls := pl_len s
  rw [← scan_nil]
  simp -dsimp only [↓SD, SP, ↓reduceIte, Nat.reduceEqDiff, ini, frz, rdAo, rd3o, rd2o, rdpo, rd1o, fnv, intv, VOp.dst, getRo, solEo, solo, solo1, allsz, List.all_cons, List.all_nil, Bool.and_true, beq_self_eq_true, List.length_cons, List.length_nil, Nat.zero_add, srcv, Nat.le_refl, List.take_succ_cons, List.take_zero, and_self, if_true, Nat.reduceAdd, Nat.reduceLT, eq_self, c115]
  refine bal_mk fun g hg => ?_
  simp -dsimp only [↓SD, SP, ↓reduceIte, Nat.reduceEqDiff, ini, frz, rdAo, rd3o, rd2o, rdpo, rd1o, fnv, intv, VOp.dst, getRo, solEo, solo, solo1, allsz, List.all_cons, List.all_nil, Bool.and_true, beq_self_eq_true, List.length_cons, List.length_nil, Nat.zero_add, srcv, Nat.le_refl, List.take_succ_cons, List.take_zero, and_self, if_true, Nat.reduceAdd, Nat.reduceLT, eq_self]
  refine loop_rule (fun m E H n => ∃ (i f : Nat) (out : List (List UInt8)) (g : Nat) (ex : Bool), m + i = s.size ∧ E 0 = .str s ∧ E 1 = .int .u8 47 ∧ E 2 = .int .i64 3 ∧ E 7 = .own 10 g 1 out.length ∧ E 8 = .int .i64 f ∧ E 9 = .int .i64 i ∧ H 10 = some ⟨g, 1, (out.map mkB).map .str, false, true, ex⟩ ∧
        f ≤ i ∧ out.length ≤ 3 ∧ out ++ scanL (3 - out.length) (((pl s).drop f).take (i - f)) ((pl s).drop i) = scanL 3 [] (pl s) ∧ lo ≤ g ∧ g < n)
    (fun e E H n => e = .exit 0 ∧ ∃ (f : Nat) (out : List (List UInt8)) (g : Nat) (ex : Bool), E 0 = .str s ∧ E 7 = .own 10 g 1 out.length ∧ E 8 = .int .i64 f ∧ H 10 = some ⟨g, 1, (out.map mkB).map .str, false, true, ex⟩ ∧ f ≤ s.size ∧ out.length ≤ 3 ∧ out ++ [(pl s).drop f] = scanL 3 [] (pl s) ∧ lo ≤ g ∧ g < n) s.size
    ⟨0, 0, [], g, true, rfl, by first | (simp -dsimp only [↓SD, SP, ↓reduceIte, Nat.reduceEqDiff, ini, frz, rdAo, rd3o, rd2o, rdpo, rd1o, fnv, intv, VOp.dst, getRo, solEo, solo, solo1, allsz, List.all_cons, List.all_nil, Bool.and_true, beq_self_eq_true, List.length_cons, List.length_nil, Nat.zero_add, srcv, Nat.le_refl, List.take_succ_cons, List.take_zero, and_self, if_true, Nat.reduceAdd, Nat.reduceLT, eq_self]; done) | (simp -dsimp only [↓SD, SP, ↓reduceIte, Nat.reduceEqDiff, ini, frz, rdAo, rd3o, rd2o, rdpo, rd1o, fnv, intv, VOp.dst, getRo, solEo, solo, solo1, allsz, List.all_cons, List.all_nil, Bool.and_true, beq_self_eq_true, List.length_cons, List.length_nil, Nat.zero_add, srcv, Nat.le_refl, List.take_succ_cons, List.take_zero, and_self, if_true, Nat.reduceAdd, Nat.reduceLT, eq_self]; rfl) | rfl, by first | (simp -dsimp only [↓SD, SP, ↓reduceIte, Nat.reduceEqDiff, ini, frz, rdAo, rd3o, rd2o, rdpo, rd1o, fnv, intv, VOp.dst, getRo, solEo, solo, solo1, allsz, List.all_cons, List.all_nil, Bool.and_true, beq_self_eq_true, List.length_cons, List.length_nil, Nat.zero_add, srcv, Nat.le_refl, List.take_succ_cons, List.take_zero, and_self, if_true, Nat.reduceAdd, Nat.reduceLT, eq_self]; done) | (simp -dsimp only [↓SD, SP, ↓reduceIte, Nat.reduceEqDiff, ini, frz, rdAo, rd3o, rd2o, rdpo, rd1o, fnv, intv, VOp.dst, getRo, solEo, solo, solo1, allsz, List.all_cons, List.all_nil, Bool.and_true, beq_self_eq_true, List.length_cons, List.length_nil, Nat.zero_add, srcv, Nat.le_refl, List.take_succ_cons, List.take_zero, and_self, if_true, Nat.reduceAdd, Nat.reduceLT, eq_self]; rfl) | rfl, by first | (simp -dsimp only [↓SD, SP, ↓reduceIte, Nat.reduceEqDiff, ini, frz, rdAo, rd3o, rd2o, rdpo, rd1o, fnv, intv, VOp.dst, getRo, solEo, solo, solo1, allsz, List.all_cons, List.all_nil, Bool.and_true, beq_self_eq_true, List.length_cons, List.length_nil, Nat.zero_add, srcv, Nat.le_refl, List.take_succ_cons, List.take_zero, and_self, if_true, Nat.reduceAdd, Nat.reduceLT, eq_self]; done) | (simp -dsimp only [↓SD, SP, ↓reduceIte, Nat.reduceEqDiff, ini, frz, rdAo, rd3o, rd2o, rdpo, rd1o, fnv, intv, VOp.dst, getRo, solEo, solo, solo1, allsz, List.all_cons, List.all_nil, Bool.and_true, beq_self_eq_true, List.length_cons, List.length_nil, Nat.zero_add, srcv, Nat.le_refl, List.take_succ_cons, List.take_zero, and_self, if_true, Nat.reduceAdd, Nat.reduceLT, eq_self]; rfl) | rfl, by first | (simp -dsimp only [↓SD, SP, ↓reduceIte, Nat.reduceEqDiff, ini, frz, rdAo, rd3o, rd2o, rdpo, rd1o, fnv, intv, VOp.dst, getRo, solEo, solo, solo1, allsz, List.all_cons, List.all_nil, Bool.and_true, beq_self_eq_true, List.length_cons, List.length_nil, Nat.zero_add, srcv, Nat.le_refl, List.take_succ_cons, List.take_zero, and_self, if_true, Nat.reduceAdd, Nat.reduceLT, eq_self]; done) | (simp -dsimp only [↓SD, SP, ↓reduceIte, Nat.reduceEqDiff, ini, frz, rdAo, rd3o, rd2o, rdpo, rd1o, fnv, intv, VOp.dst, getRo, solEo, solo, solo1, allsz, List.all_cons, List.all_nil, Bool.and_true, beq_self_eq_true, List.length_cons, List.length_nil, Nat.zero_add, srcv, Nat.le_refl, List.take_succ_cons, List.take_zero, and_self, if_true, Nat.reduceAdd, Nat.reduceLT, eq_self]; rfl) | rfl, by first | (simp -dsimp only [↓SD, SP, ↓reduceIte, Nat.reduceEqDiff, ini, frz, rdAo, rd3o, rd2o, rdpo, rd1o, fnv, intv, VOp.dst, getRo, solEo, solo, solo1, allsz, List.all_cons, List.all_nil, Bool.and_true, beq_self_eq_true, List.length_cons, List.length_nil, Nat.zero_add, srcv, Nat.le_refl, List.take_succ_cons, List.take_zero, and_self, if_true, Nat.reduceAdd, Nat.reduceLT, eq_self]; done) | (simp -dsimp only [↓SD, SP, ↓reduceIte, Nat.reduceEqDiff, ini, frz, rdAo, rd3o, rd2o, rdpo, rd1o, fnv, intv, VOp.dst, getRo, solEo, solo, solo1, allsz, List.all_cons, List.all_nil, Bool.and_true, beq_self_eq_true, List.length_cons, List.length_nil, Nat.zero_add, srcv, Nat.le_refl, List.take_succ_cons, List.take_zero, and_self, if_true, Nat.reduceAdd, Nat.reduceLT, eq_self]; rfl) | rfl, by first | (simp -dsimp only [↓SD, SP, ↓reduceIte, Nat.reduceEqDiff, ini, frz, rdAo, rd3o, rd2o, rdpo, rd1o, fnv, intv, VOp.dst, getRo, solEo, solo, solo1, allsz, List.all_cons, List.all_nil, Bool.and_true, beq_self_eq_true, List.length_cons, List.length_nil, Nat.zero_add, srcv, Nat.le_refl, List.take_succ_cons, List.take_zero, and_self, if_true, Nat.reduceAdd, Nat.reduceLT, eq_self]; done) | (simp -dsimp only [↓SD, SP, ↓reduceIte, Nat.reduceEqDiff, ini, frz, rdAo, rd3o, rd2o, rdpo, rd1o, fnv, intv, VOp.dst, getRo, solEo, solo, solo1, allsz, List.all_cons, List.all_nil, Bool.and_true, beq_self_eq_true, List.length_cons, List.length_nil, Nat.zero_add, srcv, Nat.le_refl, List.take_succ_cons, List.take_zero, and_self, if_true, Nat.reduceAdd, Nat.reduceLT, eq_self]; rfl) | rfl, by first | (simp -dsimp only [↓SD, SP, ↓reduceIte, Nat.reduceEqDiff, ini, frz, rdAo, rd3o, rd2o, rdpo, rd1o, fnv, intv, VOp.dst, getRo, solEo, solo, solo1, allsz, List.all_cons, List.all_nil, Bool.and_true, beq_self_eq_true, List.length_cons, List.length_nil, Nat.zero_add, srcv, Nat.le_refl, List.take_succ_cons, List.take_zero, and_self, if_true, Nat.reduceAdd, Nat.reduceLT, eq_self]; done) | (simp -dsimp only [↓SD, SP, ↓reduceIte, Nat.reduceEqDiff, ini, frz, rdAo, rd3o, rd2o, rdpo, rd1o, fnv, intv, VOp.dst, getRo, solEo, solo, solo1, allsz, List.all_cons, List.all_nil, Bool.and_true, beq_self_eq_true, List.length_cons, List.length_nil, Nat.zero_add, srcv, Nat.le_refl, List.take_succ_cons, List.take_zero, and_self, if_true, Nat.reduceAdd, Nat.reduceLT, eq_self]; rfl) | rfl, Nat.le_refl _, by decide, by simp, hg, by omega⟩ ?_ ?_
  · rintro e E H n ⟨rfl, f, out, g, ex, h0, h7, h8, hH, hf, hol, hout, hlg, hgn⟩
    have x1 : ∀ H : Hp, slcv H 0 (.str s) (some (.int .i64 f)) none = some (.str (mkB ((pl s).drop f))) := fun H => by
      have e := ex_s s f s.size (Nat.le_refl _)
      rw [List.take_of_length_le (by simp)] at e
      simp [slcv, e]
      omega
    simp -dsimp only [↓SD, SP, ↓reduceIte, Nat.reduceEqDiff, ini, frz, rdAo, rd3o, rd2o, rdpo, rd1o, fnv, intv, VOp.dst, getRo, solEo, solo, solo1, allsz, List.all_cons, List.all_nil, Bool.and_true, beq_self_eq_true, List.length_cons, List.length_nil, Nat.zero_add, srcv, Nat.le_refl, List.take_succ_cons, List.take_zero, and_self, if_true, Nat.reduceAdd, Nat.reduceLT, eq_self, h0, h7, h8, x1]
    refine bal_mk fun g2 hg2 => ?_
    simp -dsimp only [↓SD, SP, ↓reduceIte, Nat.reduceEqDiff, ini, frz, rdAo, rd3o, rd2o, rdpo, rd1o, fnv, intv, VOp.dst, getRo, solEo, solo, solo1, allsz, List.all_cons, List.all_nil, Bool.and_true, beq_self_eq_true, List.length_cons, List.length_nil, Nat.zero_add, srcv, Nat.le_refl, List.take_succ_cons, List.take_zero, and_self, if_true, Nat.reduceAdd, Nat.reduceLT, eq_self]
    refine app_own (row := true) (ex := ex) (xs := (out.map mkB).map .str) ?_ (by simp) (by simp) (by simp; omega) (by simp; omega) fun b' n' g3 g4 => ?_
    · first | (simp -dsimp only [↓SD, SP, ↓reduceIte, Nat.reduceEqDiff, ini, frz, rdAo, rd3o, rd2o, rdpo, rd1o, fnv, intv, VOp.dst, getRo, solEo, solo, solo1, allsz, List.all_cons, List.all_nil, Bool.and_true, beq_self_eq_true, List.length_cons, List.length_nil, Nat.zero_add, srcv, Nat.le_refl, List.take_succ_cons, List.take_zero, and_self, if_true, Nat.reduceAdd, Nat.reduceLT, eq_self, hH]; done) | (simp -dsimp only [↓SD, SP, ↓reduceIte, Nat.reduceEqDiff, ini, frz, rdAo, rd3o, rd2o, rdpo, rd1o, fnv, intv, VOp.dst, getRo, solEo, solo, solo1, allsz, List.all_cons, List.all_nil, Bool.and_true, beq_self_eq_true, List.length_cons, List.length_nil, Nat.zero_add, srcv, Nat.le_refl, List.take_succ_cons, List.take_zero, and_self, if_true, Nat.reduceAdd, Nat.reduceLT, eq_self, hH]; rfl) | rfl
    simp -dsimp only [↓SD, SP, ↓reduceIte, Nat.reduceEqDiff, ini, frz, rdAo, rd3o, rd2o, rdpo, rd1o, fnv, intv, VOp.dst, getRo, solEo, solo, solo1, allsz, List.all_cons, List.all_nil, Bool.and_true, beq_self_eq_true, List.length_cons, List.length_nil, Nat.zero_add, srcv, Nat.le_refl, List.take_succ_cons, List.take_zero, and_self, if_true, Nat.reduceAdd, Nat.reduceLT, eq_self, List.length_append, List.length_map]
    rw [← hout]
    exact .inr ⟨b', by omega, by omega, by simp⟩
  · rintro m E H n Q K ⟨i, f, out, g, ex, hm, h0, h1, h2, h7, h8, h9, hH, hf, hol, hout, hlg, hgn⟩ hQ hK
    by_cases hi : i < s.size
    · have hdr : (pl s).drop i = s[i] :: (pl s).drop (i + 1) := by
        have hl : i < (pl s).length := by omega
        rw [List.drop_eq_getElem_cons hl]
        rfl
      have htk : ((pl s).drop f).take (i + 1 - f) = ((pl s).drop f).take (i - f) ++ [s[i]] := by
        have hl : i < (pl s).length := by omega
        rw [show i + 1 - f = (i - f) + 1 by omega, List.take_succ_eq_append_getElem (by simp; omega)]
        congr 2
        rw [List.getElem_drop]
        have : f + (i - f) = i := by omega
        simp only [this]
        rfl
      by_cases hk : out.length < 3
      · obtain ⟨k, hk3⟩ : ∃ k, 3 - out.length = k + 1 := ⟨2 - out.length, by omega⟩
        rw [hk3, hdr, scanL] at hout
        by_cases hb : s[i] = 47
        · rw [if_pos hb] at hout
          have x1 : ∀ H : Hp, slcv H 0 (.str s) (some (.int .i64 f)) (some (.int .i64 i)) = some (.str (mkB (((pl s).drop f).take (i - f)))) := fun H => by
            have e := ex_s s f i (by omega)
            simp [slcv, e]
            omega
          simp -dsimp only [↓SD, SP, ↓reduceIte, Nat.reduceEqDiff, ini, frz, rdAo, rd3o, rd2o, rdpo, rd1o, fnv, intv, VOp.dst, getRo, solEo, solo, solo1, allsz, List.all_cons, List.all_nil, Bool.and_true, beq_self_eq_true, List.length_cons, List.length_nil, Nat.zero_add, srcv, Nat.le_refl, List.take_succ_cons, List.take_zero, and_self, if_true, Nat.reduceAdd, Nat.reduceLT, eq_self, h0, h1, h2, h7, h8, h9, Int.ofNat_lt, hi, l_own, show (out.length : Int) < 3 by omega, x_str _ _ hi, hb, x1, show ((47 : UInt8).toNat : Int) = 47 from rfl]
          refine bal_mk fun g2 hg2 => ?_
          simp -dsimp only [↓SD, SP, ↓reduceIte, Nat.reduceEqDiff, ini, frz, rdAo, rd3o, rd2o, rdpo, rd1o, fnv, intv, VOp.dst, getRo, solEo, solo, solo1, allsz, List.all_cons, List.all_nil, Bool.and_true, beq_self_eq_true, List.length_cons, List.length_nil, Nat.zero_add, srcv, Nat.le_refl, List.take_succ_cons, List.take_zero, and_self, if_true, Nat.reduceAdd, Nat.reduceLT, eq_self]
          refine app_own (row := true) (ex := ex) (xs := (out.map mkB).map .str) ?_ (by simp) (by simp) (by simp; omega) (by simp; omega) fun b' n' g3 g4 => ?_
          · first | (simp -dsimp only [↓SD, SP, ↓reduceIte, Nat.reduceEqDiff, ini, frz, rdAo, rd3o, rd2o, rdpo, rd1o, fnv, intv, VOp.dst, getRo, solEo, solo, solo1, allsz, List.all_cons, List.all_nil, Bool.and_true, beq_self_eq_true, List.length_cons, List.length_nil, Nat.zero_add, srcv, Nat.le_refl, List.take_succ_cons, List.take_zero, and_self, if_true, Nat.reduceAdd, Nat.reduceLT, eq_self, hH]; done) | (simp -dsimp only [↓SD, SP, ↓reduceIte, Nat.reduceEqDiff, ini, frz, rdAo, rd3o, rd2o, rdpo, rd1o, fnv, intv, VOp.dst, getRo, solEo, solo, solo1, allsz, List.all_cons, List.all_nil, Bool.and_true, beq_self_eq_true, List.length_cons, List.length_nil, Nat.zero_add, srcv, Nat.le_refl, List.take_succ_cons, List.take_zero, and_self, if_true, Nat.reduceAdd, Nat.reduceLT, eq_self, hH]; rfl) | rfl
          simp -dsimp only [↓SD, SP, ↓reduceIte, Nat.reduceEqDiff, ini, frz, rdAo, rd3o, rd2o, rdpo, rd1o, fnv, intv, VOp.dst, getRo, solEo, solo, solo1, allsz, List.all_cons, List.all_nil, Bool.and_true, beq_self_eq_true, List.length_cons, List.length_nil, Nat.zero_add, srcv, Nat.le_refl, List.take_succ_cons, List.take_zero, and_self, if_true, Nat.reduceAdd, Nat.reduceLT, eq_self, h9, wrap64 ((i : Int) + 1) (by omega)]
          refine hK (m - 1) _ _ _ (by omega) ⟨i + 1, i + 1, out ++ [((pl s).drop f).take (i - f)], b', false, by omega, by first | (simp -dsimp only [↓SD, SP, ↓reduceIte, Nat.reduceEqDiff, ini, frz, rdAo, rd3o, rd2o, rdpo, rd1o, fnv, intv, VOp.dst, getRo, solEo, solo, solo1, allsz, List.all_cons, List.all_nil, Bool.and_true, beq_self_eq_true, List.length_cons, List.length_nil, Nat.zero_add, srcv, Nat.le_refl, List.take_succ_cons, List.take_zero, and_self, if_true, Nat.reduceAdd, Nat.reduceLT, eq_self, h0]; done) | (simp -dsimp only [↓SD, SP, ↓reduceIte, Nat.reduceEqDiff, ini, frz, rdAo, rd3o, rd2o, rdpo, rd1o, fnv, intv, VOp.dst, getRo, solEo, solo, solo1, allsz, List.all_cons, List.all_nil, Bool.and_true, beq_self_eq_true, List.length_cons, List.length_nil, Nat.zero_add, srcv, Nat.le_refl, List.take_succ_cons, List.take_zero, and_self, if_true, Nat.reduceAdd, Nat.reduceLT, eq_self, h0]; rfl) | rfl, by first | (simp -dsimp only [↓SD, SP, ↓reduceIte, Nat.reduceEqDiff, ini, frz, rdAo, rd3o, rd2o, rdpo, rd1o, fnv, intv, VOp.dst, getRo, solEo, solo, solo1, allsz, List.all_cons, List.all_nil, Bool.and_true, beq_self_eq_true, List.length_cons, List.length_nil, Nat.zero_add, srcv, Nat.le_refl, List.take_succ_cons, List.take_zero, and_self, if_true, Nat.reduceAdd, Nat.reduceLT, eq_self, h1]; done) | (simp -dsimp only [↓SD, SP, ↓reduceIte, Nat.reduceEqDiff, ini, frz, rdAo, rd3o, rd2o, rdpo, rd1o, fnv, intv, VOp.dst, getRo, solEo, solo, solo1, allsz, List.all_cons, List.all_nil, Bool.and_true, beq_self_eq_true, List.length_cons, List.length_nil, Nat.zero_add, srcv, Nat.le_refl, List.take_succ_cons, List.take_zero, and_self, if_true, Nat.reduceAdd, Nat.reduceLT, eq_self, h1]; rfl) | rfl, by first | (simp -dsimp only [↓SD, SP, ↓reduceIte, Nat.reduceEqDiff, ini, frz, rdAo, rd3o, rd2o, rdpo, rd1o, fnv, intv, VOp.dst, getRo, solEo, solo, solo1, allsz, List.all_cons, List.all_nil, Bool.and_true, beq_self_eq_true, List.length_cons, List.length_nil, Nat.zero_add, srcv, Nat.le_refl, List.take_succ_cons, List.take_zero, and_self, if_true, Nat.reduceAdd, Nat.reduceLT, eq_self, h2]; done) | (simp -dsimp only [↓SD, SP, ↓reduceIte, Nat.reduceEqDiff, ini, frz, rdAo, rd3o, rd2o, rdpo, rd1o, fnv, intv, VOp.dst, getRo, solEo, solo, solo1, allsz, List.all_cons, List.all_nil, Bool.and_true, beq_self_eq_true, List.length_cons, List.length_nil, Nat.zero_add, srcv, Nat.le_refl, List.take_succ_cons, List.take_zero, and_self, if_true, Nat.reduceAdd, Nat.reduceLT, eq_self, h2]; rfl) | rfl, ?_, by first | (simp -dsimp only [↓SD, SP, ↓reduceIte, Nat.reduceEqDiff, ini, frz, rdAo, rd3o, rd2o, rdpo, rd1o, fnv, intv, VOp.dst, getRo, solEo, solo, solo1, allsz, List.all_cons, List.all_nil, Bool.and_true, beq_self_eq_true, List.length_cons, List.length_nil, Nat.zero_add, srcv, Nat.le_refl, List.take_succ_cons, List.take_zero, and_self, if_true, Nat.reduceAdd, Nat.reduceLT, eq_self, Int.natCast_add, Int.natCast_one]; done) | (simp -dsimp only [↓SD, SP, ↓reduceIte, Nat.reduceEqDiff, ini, frz, rdAo, rd3o, rd2o, rdpo, rd1o, fnv, intv, VOp.dst, getRo, solEo, solo, solo1, allsz, List.all_cons, List.all_nil, Bool.and_true, beq_self_eq_true, List.length_cons, List.length_nil, Nat.zero_add, srcv, Nat.le_refl, List.take_succ_cons, List.take_zero, and_self, if_true, Nat.reduceAdd, Nat.reduceLT, eq_self, Int.natCast_add, Int.natCast_one]; rfl) | rfl, by first | (simp -dsimp only [↓SD, SP, ↓reduceIte, Nat.reduceEqDiff, ini, frz, rdAo, rd3o, rd2o, rdpo, rd1o, fnv, intv, VOp.dst, getRo, solEo, solo, solo1, allsz, List.all_cons, List.all_nil, Bool.and_true, beq_self_eq_true, List.length_cons, List.length_nil, Nat.zero_add, srcv, Nat.le_refl, List.take_succ_cons, List.take_zero, and_self, if_true, Nat.reduceAdd, Nat.reduceLT, eq_self, Int.natCast_add, Int.natCast_one]; done) | (simp -dsimp only [↓SD, SP, ↓reduceIte, Nat.reduceEqDiff, ini, frz, rdAo, rd3o, rd2o, rdpo, rd1o, fnv, intv, VOp.dst, getRo, solEo, solo, solo1, allsz, List.all_cons, List.all_nil, Bool.and_true, beq_self_eq_true, List.length_cons, List.length_nil, Nat.zero_add, srcv, Nat.le_refl, List.take_succ_cons, List.take_zero, and_self, if_true, Nat.reduceAdd, Nat.reduceLT, eq_self, Int.natCast_add, Int.natCast_one]; rfl) | rfl, ?_, Nat.le_refl _, by simp; omega, ?_, by omega, by omega⟩
          · first | (simp -dsimp only [↓SD, SP, ↓reduceIte, Nat.reduceEqDiff, ini, frz, rdAo, rd3o, rd2o, rdpo, rd1o, fnv, intv, VOp.dst, getRo, solEo, solo, solo1, allsz, List.all_cons, List.all_nil, Bool.and_true, beq_self_eq_true, List.length_cons, List.length_nil, Nat.zero_add, srcv, Nat.le_refl, List.take_succ_cons, List.take_zero, and_self, if_true, Nat.reduceAdd, Nat.reduceLT, eq_self, List.length_append]; done) | (simp -dsimp only [↓SD, SP, ↓reduceIte, Nat.reduceEqDiff, ini, frz, rdAo, rd3o, rd2o, rdpo, rd1o, fnv, intv, VOp.dst, getRo, solEo, solo, solo1, allsz, List.all_cons, List.all_nil, Bool.and_true, beq_self_eq_true, List.length_cons, List.length_nil, Nat.zero_add, srcv, Nat.le_refl, List.take_succ_cons, List.take_zero, and_self, if_true, Nat.reduceAdd, Nat.reduceLT, eq_self, List.length_append]; rfl) | rfl
          · simp -dsimp only [↓SD, SP, ↓reduceIte, Nat.reduceEqDiff, ini, frz, rdAo, rd3o, rd2o, rdpo, rd1o, fnv, intv, VOp.dst, getRo, solEo, solo, solo1, allsz, List.all_cons, List.all_nil, Bool.and_true, beq_self_eq_true, List.length_cons, List.length_nil, Nat.zero_add, srcv, Nat.le_refl, List.take_succ_cons, List.take_zero, and_self, if_true, Nat.reduceAdd, Nat.reduceLT, eq_self]
            simp
          · rw [← hout]
            simp [show 3 - (out.length + 1) = k by omega]
        · rw [if_neg hb] at hout
          have hbi : ¬ ((s[i].toNat : Int) = 47) := fun e => hb (UInt8.toNat_inj.1 (by show s[i].toNat = 47; omega))
          simp -dsimp only [↓SD, SP, ↓reduceIte, Nat.reduceEqDiff, ini, frz, rdAo, rd3o, rd2o, rdpo, rd1o, fnv, intv, VOp.dst, getRo, solEo, solo, solo1, allsz, List.all_cons, List.all_nil, Bool.and_true, beq_self_eq_true, List.length_cons, List.length_nil, Nat.zero_add, srcv, Nat.le_refl, List.take_succ_cons, List.take_zero, and_self, if_true, Nat.reduceAdd, Nat.reduceLT, eq_self, h0, h1, h2, h7, h8, h9, Int.ofNat_lt, hi, l_own, show (out.length : Int) < 3 by omega, x_str _ _ hi, hbi, wrap64 ((i : Int) + 1) (by omega)]
          refine hK (m - 1) _ _ _ (by omega) ⟨i + 1, f, out, g, ex, by omega, by first | (simp -dsimp only [↓SD, SP, ↓reduceIte, Nat.reduceEqDiff, ini, frz, rdAo, rd3o, rd2o, rdpo, rd1o, fnv, intv, VOp.dst, getRo, solEo, solo, solo1, allsz, List.all_cons, List.all_nil, Bool.and_true, beq_self_eq_true, List.length_cons, List.length_nil, Nat.zero_add, srcv, Nat.le_refl, List.take_succ_cons, List.take_zero, and_self, if_true, Nat.reduceAdd, Nat.reduceLT, eq_self, h0]; done) | (simp -dsimp only [↓SD, SP, ↓reduceIte, Nat.reduceEqDiff, ini, frz, rdAo, rd3o, rd2o, rdpo, rd1o, fnv, intv, VOp.dst, getRo, solEo, solo, solo1, allsz, List.all_cons, List.all_nil, Bool.and_true, beq_self_eq_true, List.length_cons, List.length_nil, Nat.zero_add, srcv, Nat.le_refl, List.take_succ_cons, List.take_zero, and_self, if_true, Nat.reduceAdd, Nat.reduceLT, eq_self, h0]; rfl) | rfl, by first | (simp -dsimp only [↓SD, SP, ↓reduceIte, Nat.reduceEqDiff, ini, frz, rdAo, rd3o, rd2o, rdpo, rd1o, fnv, intv, VOp.dst, getRo, solEo, solo, solo1, allsz, List.all_cons, List.all_nil, Bool.and_true, beq_self_eq_true, List.length_cons, List.length_nil, Nat.zero_add, srcv, Nat.le_refl, List.take_succ_cons, List.take_zero, and_self, if_true, Nat.reduceAdd, Nat.reduceLT, eq_self, h1]; done) | (simp -dsimp only [↓SD, SP, ↓reduceIte, Nat.reduceEqDiff, ini, frz, rdAo, rd3o, rd2o, rdpo, rd1o, fnv, intv, VOp.dst, getRo, solEo, solo, solo1, allsz, List.all_cons, List.all_nil, Bool.and_true, beq_self_eq_true, List.length_cons, List.length_nil, Nat.zero_add, srcv, Nat.le_refl, List.take_succ_cons, List.take_zero, and_self, if_true, Nat.reduceAdd, Nat.reduceLT, eq_self, h1]; rfl) | rfl, by first | (simp -dsimp only [↓SD, SP, ↓reduceIte, Nat.reduceEqDiff, ini, frz, rdAo, rd3o, rd2o, rdpo, rd1o, fnv, intv, VOp.dst, getRo, solEo, solo, solo1, allsz, List.all_cons, List.all_nil, Bool.and_true, beq_self_eq_true, List.length_cons, List.length_nil, Nat.zero_add, srcv, Nat.le_refl, List.take_succ_cons, List.take_zero, and_self, if_true, Nat.reduceAdd, Nat.reduceLT, eq_self, h2]; done) | (simp -dsimp only [↓SD, SP, ↓reduceIte, Nat.reduceEqDiff, ini, frz, rdAo, rd3o, rd2o, rdpo, rd1o, fnv, intv, VOp.dst, getRo, solEo, solo, solo1, allsz, List.all_cons, List.all_nil, Bool.and_true, beq_self_eq_true, List.length_cons, List.length_nil, Nat.zero_add, srcv, Nat.le_refl, List.take_succ_cons, List.take_zero, and_self, if_true, Nat.reduceAdd, Nat.reduceLT, eq_self, h2]; rfl) | rfl, by first | (simp -dsimp only [↓SD, SP, ↓reduceIte, Nat.reduceEqDiff, ini, frz, rdAo, rd3o, rd2o, rdpo, rd1o, fnv, intv, VOp.dst, getRo, solEo, solo, solo1, allsz, List.all_cons, List.all_nil, Bool.and_true, beq_self_eq_true, List.length_cons, List.length_nil, Nat.zero_add, srcv, Nat.le_refl, List.take_succ_cons, List.take_zero, and_self, if_true, Nat.reduceAdd, Nat.reduceLT, eq_self, h7]; done) | (simp -dsimp only [↓SD, SP, ↓reduceIte, Nat.reduceEqDiff, ini, frz, rdAo, rd3o, rd2o, rdpo, rd1o, fnv, intv, VOp.dst, getRo, solEo, solo, solo1, allsz, List.all_cons, List.all_nil, Bool.and_true, beq_self_eq_true, List.length_cons, List.length_nil, Nat.zero_add, srcv, Nat.le_refl, List.take_succ_cons, List.take_zero, and_self, if_true, Nat.reduceAdd, Nat.reduceLT, eq_self, h7]; rfl) | rfl, by first | (simp -dsimp only [↓SD, SP, ↓reduceIte, Nat.reduceEqDiff, ini, frz, rdAo, rd3o, rd2o, rdpo, rd1o, fnv, intv, VOp.dst, getRo, solEo, solo, solo1, allsz, List.all_cons, List.all_nil, Bool.and_true, beq_self_eq_true, List.length_cons, List.length_nil, Nat.zero_add, srcv, Nat.le_refl, List.take_succ_cons, List.take_zero, and_self, if_true, Nat.reduceAdd, Nat.reduceLT, eq_self, h8]; done) | (simp -dsimp only [↓SD, SP, ↓reduceIte, Nat.reduceEqDiff, ini, frz, rdAo, rd3o, rd2o, rdpo, rd1o, fnv, intv, VOp.dst, getRo, solEo, solo, solo1, allsz, List.all_cons, List.all_nil, Bool.and_true, beq_self_eq_true, List.length_cons, List.length_nil, Nat.zero_add, srcv, Nat.le_refl, List.take_succ_cons, List.take_zero, and_self, if_true, Nat.reduceAdd, Nat.reduceLT, eq_self, h8]; rfl) | rfl, by first | (simp -dsimp only [↓SD, SP, ↓reduceIte, Nat.reduceEqDiff, ini, frz, rdAo, rd3o, rd2o, rdpo, rd1o, fnv, intv, VOp.dst, getRo, solEo, solo, solo1, allsz, List.all_cons, List.all_nil, Bool.and_true, beq_self_eq_true, List.length_cons, List.length_nil, Nat.zero_add, srcv, Nat.le_refl, List.take_succ_cons, List.take_zero, and_self, if_true, Nat.reduceAdd, Nat.reduceLT, eq_self, Int.natCast_add, Int.natCast_one]; done) | (simp -dsimp only [↓SD, SP, ↓reduceIte, Nat.reduceEqDiff, ini, frz, rdAo, rd3o, rd2o, rdpo, rd1o, fnv, intv, VOp.dst, getRo, solEo, solo, solo1, allsz, List.all_cons, List.all_nil, Bool.and_true, beq_self_eq_true, List.length_cons, List.length_nil, Nat.zero_add, srcv, Nat.le_refl, List.take_succ_cons, List.take_zero, and_self, if_true, Nat.reduceAdd, Nat.reduceLT, eq_self, Int.natCast_add, Int.natCast_one]; rfl) | rfl, by first | (simp -dsimp only [↓SD, SP, ↓reduceIte, Nat.reduceEqDiff, ini, frz, rdAo, rd3o, rd2o, rdpo, rd1o, fnv, intv, VOp.dst, getRo, solEo, solo, solo1, allsz, List.all_cons, List.all_nil, Bool.and_true, beq_self_eq_true, List.length_cons, List.length_nil, Nat.zero_add, srcv, Nat.le_refl, List.take_succ_cons, List.take_zero, and_self, if_true, Nat.reduceAdd, Nat.reduceLT, eq_self, hH]; done) | (simp -dsimp only [↓SD, SP, ↓reduceIte, Nat.reduceEqDiff, ini, frz, rdAo, rd3o, rd2o, rdpo, rd1o, fnv, intv, VOp.dst, getRo, solEo, solo, solo1, allsz, List.all_cons, List.all_nil, Bool.and_true, beq_self_eq_true, List.length_cons, List.length_nil, Nat.zero_add, srcv, Nat.le_refl, List.take_succ_cons, List.take_zero, and_self, if_true, Nat.reduceAdd, Nat.reduceLT, eq_self, hH]; rfl) | rfl, by omega, hol, ?_, by omega, by omega⟩
          rw [← hout, htk, hk3]
      · simp -dsimp only [↓SD, SP, ↓reduceIte, Nat.reduceEqDiff, ini, frz, rdAo, rd3o, rd2o, rdpo, rd1o, fnv, intv, VOp.dst, getRo, solEo, solo, solo1, allsz, List.all_cons, List.all_nil, Bool.and_true, beq_self_eq_true, List.length_cons, List.length_nil, Nat.zero_add, srcv, Nat.le_refl, List.take_succ_cons, List.take_zero, and_self, if_true, Nat.reduceAdd, Nat.reduceLT, eq_self, h0, h1, h2, h7, h8, h9, Int.ofNat_lt, hi, l_own, show ¬ (out.length : Int) < 3 by omega]
        refine hQ _ _ _ _ ⟨rfl, f, out, g, ex, by first | (simp -dsimp only [↓SD, SP, ↓reduceIte, Nat.reduceEqDiff, ini, frz, rdAo, rd3o, rd2o, rdpo, rd1o, fnv, intv, VOp.dst, getRo, solEo, solo, solo1, allsz, List.all_cons, List.all_nil, Bool.and_true, beq_self_eq_true, List.length_cons, List.length_nil, Nat.zero_add, srcv, Nat.le_refl, List.take_succ_cons, List.take_zero, and_self, if_true, Nat.reduceAdd, Nat.reduceLT, eq_self, h0]; done) | (simp -dsimp only [↓SD, SP, ↓reduceIte, Nat.reduceEqDiff, ini, frz, rdAo, rd3o, rd2o, rdpo, rd1o, fnv, intv, VOp.dst, getRo, solEo, solo, solo1, allsz, List.all_cons, List.all_nil, Bool.and_true, beq_self_eq_true, List.length_cons, List.length_nil, Nat.zero_add, srcv, Nat.le_refl, List.take_succ_cons, List.take_zero, and_self, if_true, Nat.reduceAdd, Nat.reduceLT, eq_self, h0]; rfl) | rfl, by first | (simp -dsimp only [↓SD, SP, ↓reduceIte, Nat.reduceEqDiff, ini, frz, rdAo, rd3o, rd2o, rdpo, rd1o, fnv, intv, VOp.dst, getRo, solEo, solo, solo1, allsz, List.all_cons, List.all_nil, Bool.and_true, beq_self_eq_true, List.length_cons, List.length_nil, Nat.zero_add, srcv, Nat.le_refl, List.take_succ_cons, List.take_zero, and_self, if_true, Nat.reduceAdd, Nat.reduceLT, eq_self, h7]; done) | (simp -dsimp only [↓SD, SP, ↓reduceIte, Nat.reduceEqDiff, ini, frz, rdAo, rd3o, rd2o, rdpo, rd1o, fnv, intv, VOp.dst, getRo, solEo, solo, solo1, allsz, List.all_cons, List.all_nil, Bool.and_true, beq_self_eq_true, List.length_cons, List.length_nil, Nat.zero_add, srcv, Nat.le_refl, List.take_succ_cons, List.take_zero, and_self, if_true, Nat.reduceAdd, Nat.reduceLT, eq_self, h7]; rfl) | rfl, by first | (simp -dsimp only [↓SD, SP, ↓reduceIte, Nat.reduceEqDiff, ini, frz, rdAo, rd3o, rd2o, rdpo, rd1o, fnv, intv, VOp.dst, getRo, solEo, solo, solo1, allsz, List.all_cons, List.all_nil, Bool.and_true, beq_self_eq_true, List.length_cons, List.length_nil, Nat.zero_add, srcv, Nat.le_refl, List.take_succ_cons, List.take_zero, and_self, if_true, Nat.reduceAdd, Nat.reduceLT, eq_self, h8]; done) | (simp -dsimp only [↓SD, SP, ↓reduceIte, Nat.reduceEqDiff, ini, frz, rdAo, rd3o, rd2o, rdpo, rd1o, fnv, intv, VOp.dst, getRo, solEo, solo, solo1, allsz, List.all_cons, List.all_nil, Bool.and_true, beq_self_eq_true, List.length_cons, List.length_nil, Nat.zero_add, srcv, Nat.le_refl, List.take_succ_cons, List.take_zero, and_self, if_true, Nat.reduceAdd, Nat.reduceLT, eq_self, h8]; rfl) | rfl, by first | (simp -dsimp only [↓SD, SP, ↓reduceIte, Nat.reduceEqDiff, ini, frz, rdAo, rd3o, rd2o, rdpo, rd1o, fnv, intv, VOp.dst, getRo, solEo, solo, solo1, allsz, List.all_cons, List.all_nil, Bool.and_true, beq_self_eq_true, List.length_cons, List.length_nil, Nat.zero_add, srcv, Nat.le_refl, List.take_succ_cons, List.take_zero, and_self, if_true, Nat.reduceAdd, Nat.reduceLT, eq_self, hH]; done) | (simp -dsimp only [↓SD, SP, ↓reduceIte, Nat.reduceEqDiff, ini, frz, rdAo, rd3o, rd2o, rdpo, rd1o, fnv, intv, VOp.dst, getRo, solEo, solo, solo1, allsz, List.all_cons, List.all_nil, Bool.and_true, beq_self_eq_true, List.length_cons, List.length_nil, Nat.zero_add, srcv, Nat.le_refl, List.take_succ_cons, List.take_zero, and_self, if_true, Nat.reduceAdd, Nat.reduceLT, eq_self, hH]; rfl) | rfl, by omega, hol, ?_, hlg, hgn⟩
        rw [show 3 - out.length = 0 by omega, hdr, scanL, ← hdr] at hout
        rw [← hout]
        congr 2
        rw [show (pl s).drop i = ((pl s).drop f).drop (i - f) by rw [List.drop_drop]; congr 1; omega, List.take_append_drop]
    · simp -dsimp only [↓SD, SP, ↓reduceIte, Nat.reduceEqDiff, ini, frz, rdAo, rd3o, rd2o, rdpo, rd1o, fnv, intv, VOp.dst, getRo, solEo, solo, solo1, allsz, List.all_cons, List.all_nil, Bool.and_true, beq_self_eq_true, List.length_cons, List.length_nil, Nat.zero_add, srcv, Nat.le_refl, List.take_succ_cons, List.take_zero, and_self, if_true, Nat.reduceAdd, Nat.reduceLT, eq_self, h0, h1, h2, h7, h8, h9, Int.ofNat_lt, hi, l_own]
      refine hQ _ _ _ _ ⟨rfl, f, out, g, ex, by first | (simp -dsimp only [↓SD, SP, ↓reduceIte, Nat.reduceEqDiff, ini, frz, rdAo, rd3o, rd2o, rdpo, rd1o, fnv, intv, VOp.dst, getRo, solEo, solo, solo1, allsz, List.all_cons, List.all_nil, Bool.and_true, beq_self_eq_true, List.length_cons, List.length_nil, Nat.zero_add, srcv, Nat.le_refl, List.take_succ_cons, List.take_zero, and_self, if_true, Nat.reduceAdd, Nat.reduceLT, eq_self, h0]; done) | (simp -dsimp only [↓SD, SP, ↓reduceIte, Nat.reduceEqDiff, ini, frz, rdAo, rd3o, rd2o, rdpo, rd1o, fnv, intv, VOp.dst, getRo, solEo, solo, solo1, allsz, List.all_cons, List.all_nil, Bool.and_true, beq_self_eq_true, List.length_cons, List.length_nil, Nat.zero_add, srcv, Nat.le_refl, List.take_succ_cons, List.take_zero, and_self, if_true, Nat.reduceAdd, Nat.reduceLT, eq_self, h0]; rfl) | rfl, by first | (simp -dsimp only [↓SD, SP, ↓reduceIte, Nat.reduceEqDiff, ini, frz, rdAo, rd3o, rd2o, rdpo, rd1o, fnv, intv, VOp.dst, getRo, solEo, solo, solo1, allsz, List.all_cons, List.all_nil, Bool.and_true, beq_self_eq_true, List.length_cons, List.length_nil, Nat.zero_add, srcv, Nat.le_refl, List.take_succ_cons, List.take_zero, and_self, if_true, Nat.reduceAdd, Nat.reduceLT, eq_self, h7]; done) | (simp -dsimp only [↓SD, SP, ↓reduceIte, Nat.reduceEqDiff, ini, frz, rdAo, rd3o, rd2o, rdpo, rd1o, fnv, intv, VOp.dst, getRo, solEo, solo, solo1, allsz, List.all_cons, List.all_nil, Bool.and_true, beq_self_eq_true, List.length_cons, List.length_nil, Nat.zero_add, srcv, Nat.le_refl, List.take_succ_cons, List.take_zero, and_self, if_true, Nat.reduceAdd, Nat.reduceLT, eq_self, h7]; rfl) | rfl, by first | (simp -dsimp only [↓SD, SP, ↓reduceIte, Nat.reduceEqDiff, ini, frz, rdAo, rd3o, rd2o, rdpo, rd1o, fnv, intv, VOp.dst, getRo, solEo, solo, solo1, allsz, List.all_cons, List.all_nil, Bool.and_true, beq_self_eq_true, List.length_cons, List.length_nil, Nat.zero_add, srcv, Nat.le_refl, List.take_succ_cons, List.take_zero, and_self, if_true, Nat.reduceAdd, Nat.reduceLT, eq_self, h8]; done) | (simp -dsimp only [↓SD, SP, ↓reduceIte, Nat.reduceEqDiff, ini, frz, rdAo, rd3o, rd2o, rdpo, rd1o, fnv, intv, VOp.dst, getRo, solEo, solo, solo1, allsz, List.all_cons, List.all_nil, Bool.and_true, beq_self_eq_true, List.length_cons, List.length_nil, Nat.zero_add, srcv, Nat.le_refl, List.take_succ_cons, List.take_zero, and_self, if_true, Nat.reduceAdd, Nat.reduceLT, eq_self, h8]; rfl) | rfl, by first | (simp -dsimp only [↓SD, SP, ↓reduceIte, Nat.reduceEqDiff, ini, frz, rdAo, rd3o, rd2o, rdpo, rd1o, fnv, intv, VOp.dst, getRo, solEo, solo, solo1, allsz, List.all_cons, List.all_nil, Bool.and_true, beq_self_eq_true, List.length_cons, List.length_nil, Nat.zero_add, srcv, Nat.le_refl, List.take_succ_cons, List.take_zero, and_self, if_true, Nat.reduceAdd, Nat.reduceLT, eq_self, hH]; done) | (simp -dsimp only [↓SD, SP, ↓reduceIte, Nat.reduceEqDiff, ini, frz, rdAo, rd3o, rd2o, rdpo, rd1o, fnv, intv, VOp.dst, getRo, solEo, solo, solo1, allsz, List.all_cons, List.all_nil, Bool.and_true, beq_self_eq_true, List.length_cons, List.length_nil, Nat.zero_add, srcv, Nat.le_refl, List.take_succ_cons, List.take_zero, and_self, if_true, Nat.reduceAdd, Nat.reduceLT, eq_self, hH]; rfl) | rfl, by omega, hol, ?_, hlg, hgn⟩
      rw [List.drop_eq_nil_of_le (show (pl s).length ≤ i by omega), List.take_of_length_le (by simp; omega)] at hout
      rw [← hout]
      cases 3 - out.length <;> rfl
theorem s_l4Name (s : ByteArray) (hs : s.size ≤ 1000000) : OK Go.Proofs.Tryd.prog 60 [.str s] (fun _ _ r => r = .bool (nmOk s)) := by
  refine fn_ok k60 rfl ?_
  have h2 := s_l1In s.size 1 6
  generalize OK Go.Proofs.Tryd.prog = L at *
  intro lo
  simp -dsimp only [↓SD, SP, ↓reduceIte, Nat.reduceEqDiff, ini, frz, rdAo, rd3o, rd2o, rdpo, rd1o, fnv, intv, VOp.dst, getRo, solEo, solo, solo1, allsz, List.all_cons, List.all_nil, Bool.and_true, beq_self_eq_true, List.length_cons, List.length_nil, Nat.zero_add, srcv, Nat.le_refl, List.take_succ_cons, List.take_zero, and_self, if_true, Nat.reduceAdd, Nat.reduceLT, eq_self, c60]
  refine loop_rule (fun m E H n => ∃ i : Nat, m + i = s.size ∧ E 0 = .str s ∧ E 3 = .int .i64 i ∧ ∀ j, (h : j < s.size) → j < i → nmB s[j] = true)
    (fun e E H n => (e = .exit 0 ∧ E 0 = .str s ∧ nmOk s = decide (1 ≤ s.size ∧ s.size ≤ 6)) ∨ (e = .ret ∧ E 2 = .bool (nmOk s))) s.size ⟨0, rfl, rfl, rfl, fun j h h' => by omega⟩ ?_ ?_
  · rintro e E H n (⟨rfl, h0, h3⟩ | ⟨rfl, h2⟩)
    · simp -dsimp only [↓SD, SP, ↓reduceIte, Nat.reduceEqDiff, ini, frz, rdAo, rd3o, rd2o, rdpo, rd1o, fnv, intv, VOp.dst, getRo, solEo, solo, solo1, allsz, List.all_cons, List.all_nil, Bool.and_true, beq_self_eq_true, List.length_cons, List.length_nil, Nat.zero_add, srcv, Nat.le_refl, List.take_succ_cons, List.take_zero, and_self, if_true, Nat.reduceAdd, Nat.reduceLT, eq_self, h0]
      refine call_rule h2 ?_
      rintro lo1 hi1 r - - rfl
      simp -dsimp only [↓SD, SP, ↓reduceIte, Nat.reduceEqDiff, ini, frz, rdAo, rd3o, rd2o, rdpo, rd1o, fnv, intv, VOp.dst, getRo, solEo, solo, solo1, allsz, List.all_cons, List.all_nil, Bool.and_true, beq_self_eq_true, List.length_cons, List.length_nil, Nat.zero_add, srcv, Nat.le_refl, List.take_succ_cons, List.take_zero, and_self, if_true, Nat.reduceAdd, Nat.reduceLT, eq_self, h3]
      refine congrArg AV.bool (decide_eq_decide.2 ?_)
      omega
    · simp -dsimp only [↓SD, SP, ↓reduceIte, Nat.reduceEqDiff, ini, frz, rdAo, rd3o, rd2o, rdpo, rd1o, fnv, intv, VOp.dst, getRo, solEo, solo, solo1, allsz, List.all_cons, List.all_nil, Bool.and_true, beq_self_eq_true, List.length_cons, List.length_nil, Nat.zero_add, srcv, Nat.le_refl, List.take_succ_cons, List.take_zero, and_self, if_true, Nat.reduceAdd, Nat.reduceLT, eq_self, h2]
  · rintro m E H n Q K ⟨i, hm, h0, h3, hp⟩ hQ hK
    by_cases hi : i < s.size
    · have key : nmB s[i] = (decide (97 ≤ s[i].toNat ∧ s[i].toNat ≤ 122) || decide (48 ≤ s[i].toNat ∧ s[i].toNat ≤ 57)) := rfl
      have bad : nmB s[i] = false → Q .ret (upd E 2 (.bool false)) H n := fun hb => hQ _ _ _ _ (.inr ⟨rfl, by first | (simp -dsimp only [↓SD, SP, ↓reduceIte, Nat.reduceEqDiff, ini, frz, rdAo, rd3o, rd2o, rdpo, rd1o, fnv, intv, VOp.dst, getRo, solEo, solo, solo1, allsz, List.all_cons, List.all_nil, Bool.and_true, beq_self_eq_true, List.length_cons, List.length_nil, Nat.zero_add, srcv, Nat.le_refl, List.take_succ_cons, List.take_zero, and_self, if_true, Nat.reduceAdd, Nat.reduceLT, eq_self, nmOk_no hi hb]; done) | (simp -dsimp only [↓SD, SP, ↓reduceIte, Nat.reduceEqDiff, ini, frz, rdAo, rd3o, rd2o, rdpo, rd1o, fnv, intv, VOp.dst, getRo, solEo, solo, solo1, allsz, List.all_cons, List.all_nil, Bool.and_true, beq_self_eq_true, List.length_cons, List.length_nil, Nat.zero_add, srcv, Nat.le_refl, List.take_succ_cons, List.take_zero, and_self, if_true, Nat.reduceAdd, Nat.reduceLT, eq_self, nmOk_no hi hb]; rfl) | rfl⟩)
      have good : nmB s[i] = true → ∀ j, (h : j < s.size) → j < i + 1 → nmB s[j] = true := fun hb j h hj => by
        rcases Nat.lt_or_ge j i with h' | h'
        · exact hp j h h'
        · obtain rfl : j = i := by omega
          exact hb
      by_cases h1 : (s[i].toNat : Int) < 97 <;> by_cases h2 : (122 : Int) < s[i].toNat <;> by_cases h4 : (s[i].toNat : Int) < 48 <;> by_cases h5 : (57 : Int) < s[i].toNat <;>
        (simp -dsimp only [↓SD, SP, ↓reduceIte, Nat.reduceEqDiff, ini, frz, rdAo, rd3o, rd2o, rdpo, rd1o, fnv, intv, VOp.dst, getRo, solEo, solo, solo1, allsz, List.all_cons, List.all_nil, Bool.and_true, beq_self_eq_true, List.length_cons, List.length_nil, Nat.zero_add, srcv, Nat.le_refl, List.take_succ_cons, List.take_zero, and_self, if_true, Nat.reduceAdd, Nat.reduceLT, eq_self, h0, h3, x_str _ _ hi, Int.ofNat_lt, hi, h1, h2, h4, h5, wrap64 ((i : Int) + 1) (by omega)]
         first
          | (refine hQ _ _ _ _ (.inr ⟨rfl, ?_⟩)
             simp -dsimp only [↓SD, SP, ↓reduceIte, Nat.reduceEqDiff, ini, frz, rdAo, rd3o, rd2o, rdpo, rd1o, fnv, intv, VOp.dst, getRo, solEo, solo, solo1, allsz, List.all_cons, List.all_nil, Bool.and_true, beq_self_eq_true, List.length_cons, List.length_nil, Nat.zero_add, srcv, Nat.le_refl, List.take_succ_cons, List.take_zero, and_self, if_true, Nat.reduceAdd, Nat.reduceLT, eq_self, nmOk_no hi (show nmB s[i] = false by rw [key]; simp; omega)]
             done)
          | (refine hK (m - 1) _ _ _ (by omega) ⟨i + 1, by omega, by first | (simp -dsimp only [↓SD, SP, ↓reduceIte, Nat.reduceEqDiff, ini, frz, rdAo, rd3o, rd2o, rdpo, rd1o, fnv, intv, VOp.dst, getRo, solEo, solo, solo1, allsz, List.all_cons, List.all_nil, Bool.and_true, beq_self_eq_true, List.length_cons, List.length_nil, Nat.zero_add, srcv, Nat.le_refl, List.take_succ_cons, List.take_zero, and_self, if_true, Nat.reduceAdd, Nat.reduceLT, eq_self, h0]; done) | (simp -dsimp only [↓SD, SP, ↓reduceIte, Nat.reduceEqDiff, ini, frz, rdAo, rd3o, rd2o, rdpo, rd1o, fnv, intv, VOp.dst, getRo, solEo, solo, solo1, allsz, List.all_cons, List.all_nil, Bool.and_true, beq_self_eq_true, List.length_cons, List.length_nil, Nat.zero_add, srcv, Nat.le_refl, List.take_succ_cons, List.take_zero, and_self, if_true, Nat.reduceAdd, Nat.reduceLT, eq_self, h0]; rfl) | rfl, by first | (simp -dsimp only [↓SD, SP, ↓reduceIte, Nat.reduceEqDiff, ini, frz, rdAo, rd3o, rd2o, rdpo, rd1o, fnv, intv, VOp.dst, getRo, solEo, solo, solo1, allsz, List.all_cons, List.all_nil, Bool.and_true, beq_self_eq_true, List.length_cons, List.length_nil, Nat.zero_add, srcv, Nat.le_refl, List.take_succ_cons, List.take_zero, and_self, if_true, Nat.reduceAdd, Nat.reduceLT, eq_self, Int.natCast_add, Int.natCast_one]; done) | (simp -dsimp only [↓SD, SP, ↓reduceIte, Nat.reduceEqDiff, ini, frz, rdAo, rd3o, rd2o, rdpo, rd1o, fnv, intv, VOp.dst, getRo, solEo, solo, solo1, allsz, List.all_cons, List.all_nil, Bool.and_true, beq_self_eq_true, List.length_cons, List.length_nil, Nat.zero_add, srcv, Nat.le_refl, List.take_succ_cons, List.take_zero, and_self, if_true, Nat.reduceAdd, Nat.reduceLT, eq_self, Int.natCast_add, Int.natCast_one]; rfl) | rfl, good (by rw [key]; simp; omega)⟩)
          | (exfalso; omega))
    · simp -dsimp only [↓SD, SP, ↓reduceIte, Nat.reduceEqDiff, ini, frz, rdAo, rd3o, rd2o, rdpo, rd1o, fnv, intv, VOp.dst, getRo, solEo, solo, solo1, allsz, List.all_cons, List.all_nil, Bool.and_true, beq_self_eq_true, List.length_cons, List.length_nil, Nat.zero_add, srcv, Nat.le_refl, List.take_succ_cons, List.take_zero, and_self, if_true, Nat.reduceAdd, Nat.reduceLT, eq_self, h0, h3, Int.ofNat_lt, hi]
      exact hQ _ _ _ _ (.inl ⟨rfl, h0, nmOk_yes fun j h => hp j h (by omega)⟩)
theorem cutL_sz : ∀ (k : Nat) (l : List UInt8), ∀ x ∈ cutL k l, x.length ≤ l.length
  | 0, l, x, h => by
    obtain rfl : x = l := by simpa [cutL] using h
    exact Nat.le_refl _
  | k + 1, l, x, h => by
    unfold cutL at h
    split at h
    · rcases List.mem_cons.1 h with rfl | h
      · simp; omega
      · have := cutL_sz k _ x h
        simp at this
        omega
    · obtain rfl : x = l := by simpa using h
      exact Nat.le_refl _
theorem cutL_le : ∀ (k : Nat) (l : List UInt8), (cutL k l).length ≤ k + 1
  | 0, l => by simp [cutL]
  | k + 1, l => by
    unfold cutL
    split
    · rename_i m _
      have := cutL_le k (l.drop (m + 1))
      simp only [List.length_cons]
      omega
    · simp
theorem x_strsT (t : Option (Nat × Nat)) (xs : List ByteArray) (i : Nat) (h : i < xs.length) : idxAv 1 (.lsl t xs.length (xs.map .str)) (.int .i64 i) = some (.lptr (.str xs[i])) := by
  have := x_strs xs i h
  simpa [strs, idxAv] using this
theorem s_l4Path (s : ByteArray) (hs : s.size ≤ 1000000) : OK Go.Proofs.Tryd.prog 88 [.str s] (fun _ _ r => r = .bool (pathOk s)) := by
  refine fn_ok k88 rfl ?_
  have h1 := s_l1Cut s hs
  have h2 := fun x hx => s_l4Name x hx
  generalize OK Go.Proofs.Tryd.prog = L at *
  intro lo
  have hz : ∀ x ∈ (cutL 3 (pl s)).map mkB, x.size ≤ 1000000 := fun x hx => by
    obtain ⟨y, hy, rfl⟩ := List.mem_map.1 hx
    have := cutL_sz 3 _ y hy
    rw [pl_len] at this
    rw [mkB_size]
    omega
  have hn : ((cutL 3 (pl s)).map mkB).length ≤ 4 := by rw [List.length_map]; exact cutL_le 3 _
  have hp : pathOk s = (((cutL 3 (pl s)).map mkB).all nmOk && decide (((cutL 3 (pl s)).map mkB).length ≤ 3)) := by rw [pathOk_cut, List.length_map]
  have hne : (cutL 3 (pl s)).map mkB ≠ [] := by simp [cutL_ne]
  rw [hp]
  generalize (cutL 3 (pl s)).map mkB = ws at *
  simp -dsimp only [↓SD, SP, ↓reduceIte, Nat.reduceEqDiff, ini, frz, rdAo, rd3o, rd2o, rdpo, rd1o, fnv, intv, VOp.dst, getRo, solEo, solo, solo1, allsz, List.all_cons, List.all_nil, Bool.and_true, beq_self_eq_true, List.length_cons, List.length_nil, Nat.zero_add, srcv, Nat.le_refl, List.take_succ_cons, List.take_zero, and_self, if_true, Nat.reduceAdd, Nat.reduceLT, eq_self, c88]
  refine call_rule h1 ?_
  rintro lo1 hi1 r p1 p2 (⟨hr, _⟩ | ⟨g, _, _, rfl⟩)
  · exact absurd hr hne
  simp -dsimp only [↓SD, SP, ↓reduceIte, Nat.reduceEqDiff, ini, frz, rdAo, rd3o, rd2o, rdpo, rd1o, fnv, intv, VOp.dst, getRo, solEo, solo, solo1, allsz, List.all_cons, List.all_nil, Bool.and_true, beq_self_eq_true, List.length_cons, List.length_nil, Nat.zero_add, srcv, Nat.le_refl, List.take_succ_cons, List.take_zero, and_self, if_true, Nat.reduceAdd, Nat.reduceLT, eq_self]
  refine loop_rule (fun m E H n => ∃ i : Nat, m + i = ws.length ∧ E 3 = .lsl (some (g, 1)) ws.length (ws.map .str) ∧ E 4 = .int .i64 i ∧ (ws.take i).all nmOk = true)
    (fun e E H n => (e = .exit 0 ∧ E 3 = .lsl (some (g, 1)) ws.length (ws.map .str) ∧ ws.all nmOk = true) ∨ (e = .ret ∧ E 2 = .bool false ∧ ws.all nmOk = false)) ws.length ⟨0, rfl, by first | (simp -dsimp only [↓SD, SP, ↓reduceIte, Nat.reduceEqDiff, ini, frz, rdAo, rd3o, rd2o, rdpo, rd1o, fnv, intv, VOp.dst, getRo, solEo, solo, solo1, allsz, List.all_cons, List.all_nil, Bool.and_true, beq_self_eq_true, List.length_cons, List.length_nil, Nat.zero_add, srcv, Nat.le_refl, List.take_succ_cons, List.take_zero, and_self, if_true, Nat.reduceAdd, Nat.reduceLT, eq_self]; done) | (simp -dsimp only [↓SD, SP, ↓reduceIte, Nat.reduceEqDiff, ini, frz, rdAo, rd3o, rd2o, rdpo, rd1o, fnv, intv, VOp.dst, getRo, solEo, solo, solo1, allsz, List.all_cons, List.all_nil, Bool.and_true, beq_self_eq_true, List.length_cons, List.length_nil, Nat.zero_add, srcv, Nat.le_refl, List.take_succ_cons, List.take_zero, and_self, if_true, Nat.reduceAdd, Nat.reduceLT, eq_self]; rfl) | rfl, by first | (simp -dsimp only [↓SD, SP, ↓reduceIte, Nat.reduceEqDiff, ini, frz, rdAo, rd3o, rd2o, rdpo, rd1o, fnv, intv, VOp.dst, getRo, solEo, solo, solo1, allsz, List.all_cons, List.all_nil, Bool.and_true, beq_self_eq_true, List.length_cons, List.length_nil, Nat.zero_add, srcv, Nat.le_refl, List.take_succ_cons, List.take_zero, and_self, if_true, Nat.reduceAdd, Nat.reduceLT, eq_self]; done) | (simp -dsimp only [↓SD, SP, ↓reduceIte, Nat.reduceEqDiff, ini, frz, rdAo, rd3o, rd2o, rdpo, rd1o, fnv, intv, VOp.dst, getRo, solEo, solo, solo1, allsz, List.all_cons, List.all_nil, Bool.and_true, beq_self_eq_true, List.length_cons, List.length_nil, Nat.zero_add, srcv, Nat.le_refl, List.take_succ_cons, List.take_zero, and_self, if_true, Nat.reduceAdd, Nat.reduceLT, eq_self]; rfl) | rfl, rfl⟩ ?_ ?_
  · rintro e E H n (⟨rfl, h3, ha⟩ | ⟨rfl, h3, ha⟩)
    · simp -dsimp only [↓SD, SP, ↓reduceIte, Nat.reduceEqDiff, ini, frz, rdAo, rd3o, rd2o, rdpo, rd1o, fnv, intv, VOp.dst, getRo, solEo, solo, solo1, allsz, List.all_cons, List.all_nil, Bool.and_true, beq_self_eq_true, List.length_cons, List.length_nil, Nat.zero_add, srcv, Nat.le_refl, List.take_succ_cons, List.take_zero, and_self, if_true, Nat.reduceAdd, Nat.reduceLT, eq_self, h3, l_lsl]
      rw [ha, Bool.true_and]
      refine congrArg AV.bool (decide_eq_decide.2 ?_)
      omega
    · simp -dsimp only [↓SD, SP, ↓reduceIte, Nat.reduceEqDiff, ini, frz, rdAo, rd3o, rd2o, rdpo, rd1o, fnv, intv, VOp.dst, getRo, solEo, solo, solo1, allsz, List.all_cons, List.all_nil, Bool.and_true, beq_self_eq_true, List.length_cons, List.length_nil, Nat.zero_add, srcv, Nat.le_refl, List.take_succ_cons, List.take_zero, and_self, if_true, Nat.reduceAdd, Nat.reduceLT, eq_self, h3]
      rw [ha, Bool.false_and]
  · rintro m E H n Q K ⟨i, hm, h3, h4, ha⟩ hQ hK
    by_cases hi : i < ws.length
    · simp -dsimp only [↓SD, SP, ↓reduceIte, Nat.reduceEqDiff, ini, frz, rdAo, rd3o, rd2o, rdpo, rd1o, fnv, intv, VOp.dst, getRo, solEo, solo, solo1, allsz, List.all_cons, List.all_nil, Bool.and_true, beq_self_eq_true, List.length_cons, List.length_nil, Nat.zero_add, srcv, Nat.le_refl, List.take_succ_cons, List.take_zero, and_self, if_true, Nat.reduceAdd, Nat.reduceLT, eq_self, h3, h4, l_lsl, Int.ofNat_lt, hi, x_strsT _ _ _ hi]
      refine call_rule (h2 ws[i] (hz _ (List.getElem_mem hi))) ?_
      rintro lo2 hi2 r - - rfl
      have hall : (ws.take (i + 1)).all nmOk = nmOk ws[i] := by
        rw [List.take_succ_eq_append_getElem hi, List.all_append, ha]
        simp
      cases hb : nmOk ws[i]
      · simp -dsimp only [↓SD, SP, ↓reduceIte, Nat.reduceEqDiff, ini, frz, rdAo, rd3o, rd2o, rdpo, rd1o, fnv, intv, VOp.dst, getRo, solEo, solo, solo1, allsz, List.all_cons, List.all_nil, Bool.and_true, beq_self_eq_true, List.length_cons, List.length_nil, Nat.zero_add, srcv, Nat.le_refl, List.take_succ_cons, List.take_zero, and_self, if_true, Nat.reduceAdd, Nat.reduceLT, eq_self, hb]
        refine hQ _ _ _ _ (.inr ⟨rfl, by first | (simp -dsimp only [↓SD, SP, ↓reduceIte, Nat.reduceEqDiff, ini, frz, rdAo, rd3o, rd2o, rdpo, rd1o, fnv, intv, VOp.dst, getRo, solEo, solo, solo1, allsz, List.all_cons, List.all_nil, Bool.and_true, beq_self_eq_true, List.length_cons, List.length_nil, Nat.zero_add, srcv, Nat.le_refl, List.take_succ_cons, List.take_zero, and_self, if_true, Nat.reduceAdd, Nat.reduceLT, eq_self]; done) | (simp -dsimp only [↓SD, SP, ↓reduceIte, Nat.reduceEqDiff, ini, frz, rdAo, rd3o, rd2o, rdpo, rd1o, fnv, intv, VOp.dst, getRo, solEo, solo, solo1, allsz, List.all_cons, List.all_nil, Bool.and_true, beq_self_eq_true, List.length_cons, List.length_nil, Nat.zero_add, srcv, Nat.le_refl, List.take_succ_cons, List.take_zero, and_self, if_true, Nat.reduceAdd, Nat.reduceLT, eq_self]; rfl) | rfl, ?_⟩)
        rw [Bool.eq_false_iff]
        intro h'
        rw [List.all_eq_true.1 h' _ (List.getElem_mem hi)] at hb
        cases hb
      · simp -dsimp only [↓SD, SP, ↓reduceIte, Nat.reduceEqDiff, ini, frz, rdAo, rd3o, rd2o, rdpo, rd1o, fnv, intv, VOp.dst, getRo, solEo, solo, solo1, allsz, List.all_cons, List.all_nil, Bool.and_true, beq_self_eq_true, List.length_cons, List.length_nil, Nat.zero_add, srcv, Nat.le_refl, List.take_succ_cons, List.take_zero, and_self, if_true, Nat.reduceAdd, Nat.reduceLT, eq_self, hb, h4, wrap64 ((i : Int) + 1) (by omega)]
        refine hK (m - 1) _ _ _ (by omega) ⟨i + 1, by omega, by first | (simp -dsimp only [↓SD, SP, ↓reduceIte, Nat.reduceEqDiff, ini, frz, rdAo, rd3o, rd2o, rdpo, rd1o, fnv, intv, VOp.dst, getRo, solEo, solo, solo1, allsz, List.all_cons, List.all_nil, Bool.and_true, beq_self_eq_true, List.length_cons, List.length_nil, Nat.zero_add, srcv, Nat.le_refl, List.take_succ_cons, List.take_zero, and_self, if_true, Nat.reduceAdd, Nat.reduceLT, eq_self, h3]; done) | (simp -dsimp only [↓SD, SP, ↓reduceIte, Nat.reduceEqDiff, ini, frz, rdAo, rd3o, rd2o, rdpo, rd1o, fnv, intv, VOp.dst, getRo, solEo, solo, solo1, allsz, List.all_cons, List.all_nil, Bool.and_true, beq_self_eq_true, List.length_cons, List.length_nil, Nat.zero_add, srcv, Nat.le_refl, List.take_succ_cons, List.take_zero, and_self, if_true, Nat.reduceAdd, Nat.reduceLT, eq_self, h3]; rfl) | rfl, by first | (simp -dsimp only [↓SD, SP, ↓reduceIte, Nat.reduceEqDiff, ini, frz, rdAo, rd3o, rd2o, rdpo, rd1o, fnv, intv, VOp.dst, getRo, solEo, solo, solo1, allsz, List.all_cons, List.all_nil, Bool.and_true, beq_self_eq_true, List.length_cons, List.length_nil, Nat.zero_add, srcv, Nat.le_refl, List.take_succ_cons, List.take_zero, and_self, if_true, Nat.reduceAdd, Nat.reduceLT, eq_self, Int.natCast_add, Int.natCast_one]; done) | (simp -dsimp only [↓SD, SP, ↓reduceIte, Nat.reduceEqDiff, ini, frz, rdAo, rd3o, rd2o, rdpo, rd1o, fnv, intv, VOp.dst, getRo, solEo, solo, solo1, allsz, List.all_cons, List.all_nil, Bool.and_true, beq_self_eq_true, List.length_cons, List.length_nil, Nat.zero_add, srcv, Nat.le_refl, List.take_succ_cons, List.take_zero, and_self, if_true, Nat.reduceAdd, Nat.reduceLT, eq_self, Int.natCast_add, Int.natCast_one]; rfl) | rfl, by rw [hall, hb]⟩
    · simp -dsimp only [↓SD, SP, ↓reduceIte, Nat.reduceEqDiff, ini, frz, rdAo, rd3o, rd2o, rdpo, rd1o, fnv, intv, VOp.dst, getRo, solEo, solo, solo1, allsz, List.all_cons, List.all_nil, Bool.and_true, beq_self_eq_true, List.length_cons, List.length_nil, Nat.zero_add, srcv, Nat.le_refl, List.take_succ_cons, List.take_zero, and_self, if_true, Nat.reduceAdd, Nat.reduceLT, eq_self, h3, h4, l_lsl, Int.ofNat_lt, hi]
      rw [List.take_of_length_le (by omega)] at ha
      exact hQ _ _ _ _ (.inl ⟨rfl, by first | (simp -dsimp only [↓SD, SP, ↓reduceIte, Nat.reduceEqDiff, ini, frz, rdAo, rd3o, rd2o, rdpo, rd1o, fnv, intv, VOp.dst, getRo, solEo, solo, solo1, allsz, List.all_cons, List.all_nil, Bool.and_true, beq_self_eq_true, List.length_cons, List.length_nil, Nat.zero_add, srcv, Nat.le_refl, List.take_succ_cons, List.take_zero, and_self, if_true, Nat.reduceAdd, Nat.reduceLT, eq_self, h3]; done) | (simp -dsimp only [↓SD, SP, ↓reduceIte, Nat.reduceEqDiff, ini, frz, rdAo, rd3o, rd2o, rdpo, rd1o, fnv, intv, VOp.dst, getRo, solEo, solo, solo1, allsz, List.all_cons, List.all_nil, Bool.and_true, beq_self_eq_true, List.length_cons, List.length_nil, Nat.zero_add, srcv, Nat.le_refl, List.take_succ_cons, List.take_zero, and_self, if_true, Nat.reduceAdd, Nat.reduceLT, eq_self, h3]; rfl) | rfl, ha⟩)
def wfSt (s : ByteArray) : Prop := s.size ≤ 9223372036854775807
end Go.AVM

/- Paths below one another: what the functions give; the law of PathIn. -/
set_option linter.unusedSimpArgs false
set_option linter.unusedVariables false
namespace Go.AVM
theorem s_slHasPrefix (s p : ByteArray) (hs : s.size ≤ 1000000) (hp : p.size ≤ 1000001) : OK Go.Proofs.Tryd.prog 131 [.str s, .str p] (fun _ _ r => r = .bool (decide (p.size ≤ s.size) && decide (s.extract 0 p.size = p))) := by
  refine fn_ok k131 rfl ?_
  generalize OK Go.Proofs.Tryd.prog = L at *
  intro lo
  by_cases h : (p.size : Int) ≤ s.size
  · have x1 : ∀ H : Hp, slcv H 0 (.str s) none (some (.int .i64 p.size)) = some (.str (s.extract 0 p.size)) := fun H => by
      simp [slcv]
      omega
    simp -dsimp only [↓SD, SP, ↓reduceIte, Nat.reduceEqDiff, ini, frz, rdAo, rd3o, rd2o, rdpo, rd1o, fnv, intv, VOp.dst, getRo, solEo, solo, solo1, allsz, List.all_cons, List.all_nil, Bool.and_true, beq_self_eq_true, List.length_cons, List.length_nil, Nat.zero_add, srcv, Nat.le_refl, List.take_succ_cons, List.take_zero, and_self, if_true, Nat.reduceAdd, Nat.reduceLT, eq_self, c131, h, x1]
    simp [show p.size ≤ s.size by omega]
  · simp -dsimp only [↓SD, SP, ↓reduceIte, Nat.reduceEqDiff, ini, frz, rdAo, rd3o, rd2o, rdpo, rd1o, fnv, intv, VOp.dst, getRo, solEo, solo, solo1, allsz, List.all_cons, List.all_nil, Bool.and_true, beq_self_eq_true, List.length_cons, List.length_nil, Nat.zero_add, srcv, Nat.le_refl, List.take_succ_cons, List.take_zero, and_self, if_true, Nat.reduceAdd, Nat.reduceLT, eq_self, c131, h]
    simp [show ¬ p.size ≤ s.size by omega]
theorem s_hasPrefix (s p : ByteArray) (hs : s.size ≤ 1000000) (hp : p.size ≤ 1000001) : OK Go.Proofs.Tryd.prog 120 [.str s, .str p] (fun _ _ r => r = .bool (decide (p.size ≤ s.size) && decide (s.extract 0 p.size = p))) := by
  refine fn_ok k120 rfl ?_
  have h1 := s_slHasPrefix s p hs hp
  generalize OK Go.Proofs.Tryd.prog = L at *
  intro lo
  simp -dsimp only [↓SD, SP, ↓reduceIte, Nat.reduceEqDiff, ini, frz, rdAo, rd3o, rd2o, rdpo, rd1o, fnv, intv, VOp.dst, getRo, solEo, solo, solo1, allsz, List.all_cons, List.all_nil, Bool.and_true, beq_self_eq_true, List.length_cons, List.length_nil, Nat.zero_add, srcv, Nat.le_refl, List.take_succ_cons, List.take_zero, and_self, if_true, Nat.reduceAdd, Nat.reduceLT, eq_self, c120]
  refine call_rule h1 ?_
  rintro lo1 hi1 r - - rfl
  simp -dsimp only [↓SD, SP, ↓reduceIte, Nat.reduceEqDiff, ini, frz, rdAo, rd3o, rd2o, rdpo, rd1o, fnv, intv, VOp.dst, getRo, solEo, solo, solo1, allsz, List.all_cons, List.all_nil, Bool.and_true, beq_self_eq_true, List.length_cons, List.length_nil, Nat.zero_add, srcv, Nat.le_refl, List.take_succ_cons, List.take_zero, and_self, if_true, Nat.reduceAdd, Nat.reduceLT, eq_self]
theorem app_size (a b : ByteArray) : (a ++ b).size = a.size + b.size := by
  rw [← pl_len, pl_app, List.length_append, pl_len, pl_len]
theorem s_implPathIn (d p : ByteArray) (hd : d.size ≤ 1000000) (hp : p.size ≤ 1000000) : OK Go.Proofs.Tryd.prog 98 [.str d, .str p] (fun _ _ r => r = .bool (pathIn d p)) := by
  refine fn_ok k98 rfl ?_
  have h1 := s_implPathOk d hd
  have h2 := s_implPathOk p hp
  have hz : (d ++ (⟨#[47]⟩ : ByteArray)).size = d.size + 1 := by rw [app_size, st_size]
  have h3 := s_hasPrefix p (d ++ ⟨#[47]⟩) hp (by rw [hz]; omega)
  generalize OK Go.Proofs.Tryd.prog = L at *
  intro lo
  simp -dsimp only [↓SD, SP, ↓reduceIte, Nat.reduceEqDiff, ini, frz, rdAo, rd3o, rd2o, rdpo, rd1o, fnv, intv, VOp.dst, getRo, solEo, solo, solo1, allsz, List.all_cons, List.all_nil, Bool.and_true, beq_self_eq_true, List.length_cons, List.length_nil, Nat.zero_add, srcv, Nat.le_refl, List.take_succ_cons, List.take_zero, and_self, if_true, Nat.reduceAdd, Nat.reduceLT, eq_self, c98]
  refine call_rule h1 ?_
  rintro lo1 hi1 r - - rfl
  cases e1 : pathOk d
  · simp -dsimp only [↓SD, SP, ↓reduceIte, Nat.reduceEqDiff, ini, frz, rdAo, rd3o, rd2o, rdpo, rd1o, fnv, intv, VOp.dst, getRo, solEo, solo, solo1, allsz, List.all_cons, List.all_nil, Bool.and_true, beq_self_eq_true, List.length_cons, List.length_nil, Nat.zero_add, srcv, Nat.le_refl, List.take_succ_cons, List.take_zero, and_self, if_true, Nat.reduceAdd, Nat.reduceLT, eq_self]
    simp [pathIn, e1]
  simp -dsimp only [↓SD, SP, ↓reduceIte, Nat.reduceEqDiff, ini, frz, rdAo, rd3o, rd2o, rdpo, rd1o, fnv, intv, VOp.dst, getRo, solEo, solo, solo1, allsz, List.all_cons, List.all_nil, Bool.and_true, beq_self_eq_true, List.length_cons, List.length_nil, Nat.zero_add, srcv, Nat.le_refl, List.take_succ_cons, List.take_zero, and_self, if_true, Nat.reduceAdd, Nat.reduceLT, eq_self]
  refine call_rule h2 ?_
  rintro lo2 hi2 r - - rfl
  cases e2 : pathOk p
  · simp -dsimp only [↓SD, SP, ↓reduceIte, Nat.reduceEqDiff, ini, frz, rdAo, rd3o, rd2o, rdpo, rd1o, fnv, intv, VOp.dst, getRo, solEo, solo, solo1, allsz, List.all_cons, List.all_nil, Bool.and_true, beq_self_eq_true, List.length_cons, List.length_nil, Nat.zero_add, srcv, Nat.le_refl, List.take_succ_cons, List.take_zero, and_self, if_true, Nat.reduceAdd, Nat.reduceLT, eq_self]
    simp [pathIn, e2]
  have hadd := v_sadd d ⟨#[47]⟩ (by rw [st_size]; omega)
  simp -dsimp only [↓SD, SP, ↓reduceIte, Nat.reduceEqDiff, ini, frz, rdAo, rd3o, rd2o, rdpo, rd1o, fnv, intv, VOp.dst, getRo, solEo, solo, solo1, allsz, List.all_cons, List.all_nil, Bool.and_true, beq_self_eq_true, List.length_cons, List.length_nil, Nat.zero_add, srcv, Nat.le_refl, List.take_succ_cons, List.take_zero, and_self, if_true, Nat.reduceAdd, Nat.reduceLT, eq_self, hadd]
  refine call_rule h3 ?_
  rintro lo3 hi3 r - - rfl
  simp -dsimp only [↓SD, SP, ↓reduceIte, Nat.reduceEqDiff, ini, frz, rdAo, rd3o, rd2o, rdpo, rd1o, fnv, intv, VOp.dst, getRo, solEo, solo, solo1, allsz, List.all_cons, List.all_nil, Bool.and_true, beq_self_eq_true, List.length_cons, List.length_nil, Nat.zero_add, srcv, Nat.le_refl, List.take_succ_cons, List.take_zero, and_self, if_true, Nat.reduceAdd, Nat.reduceLT, eq_self]
  rw [hz]
  have := in_has d p
  unfold stroke at this
  rw [this]
  simp [pathIn, e1, e2]
theorem s_l4In (d p : ByteArray) (hd : d.size ≤ 1000000) (hp : p.size ≤ 1000000) : OK Go.Proofs.Tryd.prog 89 [.str d, .str p] (fun _ _ r => r = .bool (inB d p)) := by
  refine fn_ok k89 rfl ?_
  generalize OK Go.Proofs.Tryd.prog = L at *
  intro lo
  by_cases h : (d.size : Int) < p.size
  · have h' : d.size < p.size := by omega
    have x1 : ∀ H : Hp, slcv H 0 (.str p) none (some (.int .i64 d.size)) = some (.str (p.extract 0 d.size)) := fun H => by
      simp [slcv]
      omega
    have hc := in_cut d p h'
    by_cases he : p.extract 0 d.size = d
    · simp -dsimp only [↓SD, SP, ↓reduceIte, Nat.reduceEqDiff, ini, frz, rdAo, rd3o, rd2o, rdpo, rd1o, fnv, intv, VOp.dst, getRo, solEo, solo, solo1, allsz, List.all_cons, List.all_nil, Bool.and_true, beq_self_eq_true, List.length_cons, List.length_nil, Nat.zero_add, srcv, Nat.le_refl, List.take_succ_cons, List.take_zero, and_self, if_true, Nat.reduceAdd, Nat.reduceLT, eq_self, c89, h, x1, he, x_str _ _ h']
      rw [← hc]
      have : ((p[d.size].toNat : Int) = 47) ↔ p[d.size] = 47 := ⟨fun e => UInt8.toNat_inj.1 (by show p[d.size].toNat = 47; omega), fun e => by rw [e]; rfl⟩
      simp [he, this]
    · simp -dsimp only [↓SD, SP, ↓reduceIte, Nat.reduceEqDiff, ini, frz, rdAo, rd3o, rd2o, rdpo, rd1o, fnv, intv, VOp.dst, getRo, solEo, solo, solo1, allsz, List.all_cons, List.all_nil, Bool.and_true, beq_self_eq_true, List.length_cons, List.length_nil, Nat.zero_add, srcv, Nat.le_refl, List.take_succ_cons, List.take_zero, and_self, if_true, Nat.reduceAdd, Nat.reduceLT, eq_self, c89, h, x1, he]
      rw [← hc]
      simp [he]
  · simp -dsimp only [↓SD, SP, ↓reduceIte, Nat.reduceEqDiff, ini, frz, rdAo, rd3o, rd2o, rdpo, rd1o, fnv, intv, VOp.dst, getRo, solEo, solo, solo1, allsz, List.all_cons, List.all_nil, Bool.and_true, beq_self_eq_true, List.length_cons, List.length_nil, Nat.zero_add, srcv, Nat.le_refl, List.take_succ_cons, List.take_zero, and_self, if_true, Nat.reduceAdd, Nat.reduceLT, eq_self, c89, h]
    cases hb : inB d p with
    | false => rfl
    | true => have := in_size hb; omega
end Go.AVM
