/- Marks of arguments and of results. -/
import Derived.Test.YtnanbjnadkoekaaDoorFD3
set_option linter.unusedSimpArgs false
set_option linter.unusedVariables false
namespace Go.AVM
theorem s_markStringS0 (k : Nat) (H0 : Hp) : OKM Go.Proofs.Tryd.prog 26 [.emp, .int .i64 k] H0 (fun _ _ r H' => r = .int .i64 k ∧ H' = H0) := by
  refine fn_okM k26 rfl ?_
  generalize OK Go.Proofs.Tryd.prog = L at *
  intro lo hlo
  simp -dsimp only [↓SD, SP, ↓reduceIte, Nat.reduceEqDiff, ini, frz, rdAo, rd3o, rd2o, rdpo, rd1o, fnv, intv, VOp.dst, getRo, solEo, solo, solo1, allsz, List.all_cons, List.all_nil, Bool.and_true, beq_self_eq_true, List.length_cons, List.length_nil, Nat.zero_add, srcv, Nat.le_refl, List.take_succ_cons, List.take_zero, and_self, if_true, Nat.reduceAdd, Nat.reduceLT, eq_self, c26]
  refine loop_rule (fun m E H _ => E 0 = .emp ∧ E 1 = .int .i64 k ∧ E 5 = .int .i64 0 ∧ H = H0) (fun e E H _ => e = .exit 0 ∧ E 1 = .int .i64 k ∧ H = H0) 0 ⟨rfl, rfl, rfl, rfl⟩ ?_ ?_
  · rintro e E H n' ⟨rfl, h1, rfl⟩
    simp -dsimp only [↓SD, SP, ↓reduceIte, Nat.reduceEqDiff, ini, frz, rdAo, rd3o, rd2o, rdpo, rd1o, fnv, intv, VOp.dst, getRo, solEo, solo, solo1, allsz, List.all_cons, List.all_nil, Bool.and_true, beq_self_eq_true, List.length_cons, List.length_nil, Nat.zero_add, srcv, Nat.le_refl, List.take_succ_cons, List.take_zero, and_self, if_true, Nat.reduceAdd, Nat.reduceLT, eq_self, h1, noTup]
  · rintro m E H n' Q K ⟨h0', h1, h5, rfl⟩ hQ hK
    simp -dsimp only [↓SD, SP, ↓reduceIte, Nat.reduceEqDiff, ini, frz, rdAo, rd3o, rd2o, rdpo, rd1o, fnv, intv, VOp.dst, getRo, solEo, solo, solo1, allsz, List.all_cons, List.all_nil, Bool.and_true, beq_self_eq_true, List.length_cons, List.length_nil, Nat.zero_add, srcv, Nat.le_refl, List.take_succ_cons, List.take_zero, and_self, if_true, Nat.reduceAdd, Nat.reduceLT, eq_self, h0', h1, h5, Int.natCast_zero, Int.lt_irrefl]
    exact hQ _ _ _ _ ⟨rfl, h1, rfl⟩
theorem s_heldStringS0 (k : Nat) (H0 : Hp) : OKM Go.Proofs.Tryd.prog 27 [.emp, .int .i64 k] H0 (fun _ _ r H' => r = .int .i64 k ∧ H' = H0) := by
  refine fn_okM k27 rfl ?_
  generalize OK Go.Proofs.Tryd.prog = L at *
  intro lo hlo
  simp -dsimp only [↓SD, SP, ↓reduceIte, Nat.reduceEqDiff, ini, frz, rdAo, rd3o, rd2o, rdpo, rd1o, fnv, intv, VOp.dst, getRo, solEo, solo, solo1, allsz, List.all_cons, List.all_nil, Bool.and_true, beq_self_eq_true, List.length_cons, List.length_nil, Nat.zero_add, srcv, Nat.le_refl, List.take_succ_cons, List.take_zero, and_self, if_true, Nat.reduceAdd, Nat.reduceLT, eq_self, c27]
  refine loop_rule (fun m E H _ => E 0 = .emp ∧ E 1 = .int .i64 k ∧ E 5 = .int .i64 0 ∧ H = H0) (fun e E H _ => e = .exit 0 ∧ E 1 = .int .i64 k ∧ H = H0) 0 ⟨rfl, rfl, rfl, rfl⟩ ?_ ?_
  · rintro e E H n' ⟨rfl, h1, rfl⟩
    simp -dsimp only [↓SD, SP, ↓reduceIte, Nat.reduceEqDiff, ini, frz, rdAo, rd3o, rd2o, rdpo, rd1o, fnv, intv, VOp.dst, getRo, solEo, solo, solo1, allsz, List.all_cons, List.all_nil, Bool.and_true, beq_self_eq_true, List.length_cons, List.length_nil, Nat.zero_add, srcv, Nat.le_refl, List.take_succ_cons, List.take_zero, and_self, if_true, Nat.reduceAdd, Nat.reduceLT, eq_self, h1, noTup]
  · rintro m E H n' Q K ⟨h0', h1, h5, rfl⟩ hQ hK
    simp -dsimp only [↓SD, SP, ↓reduceIte, Nat.reduceEqDiff, ini, frz, rdAo, rd3o, rd2o, rdpo, rd1o, fnv, intv, VOp.dst, getRo, solEo, solo, solo1, allsz, List.all_cons, List.all_nil, Bool.and_true, beq_self_eq_true, List.length_cons, List.length_nil, Nat.zero_add, srcv, Nat.le_refl, List.take_succ_cons, List.take_zero, and_self, if_true, Nat.reduceAdd, Nat.reduceLT, eq_self, h0', h1, h5, Int.natCast_zero, Int.lt_irrefl]
    exact hQ _ _ _ _ ⟨rfl, h1, rfl⟩

/-- what a call that makes memory gives: it reads as told, all its rows are new, each its own -/
def New (plain : AV) (lo hi : Nat) (r : AV) : Prop := Wk r plain ∧ tok r = true ∧ Tin lo hi (tags r)
def NoFz (H : Hp) : Prop := ∀ d k, H d = some k → k.fz = false
/-- marking a value's rows gives a number that is not less than k and not too great -/
def MarkA (P : Program) (f : FuncId) (r : AV) (N : Nat) : Prop := ∀ k : Nat, 0 < k → k ≤ 1000000000000000000 → OKM P f [ow r, .int .i64 k] (treeH r) (fun _ _ r' _ => ∃ k' : Nat, r' = .int .i64 k' ∧ k ≤ k' ∧ k' ≤ k + N)
/-- what has been marked is held -/
def MarkR (P : Program) (f g : FuncId) (r : AV) : Prop := ∀ k : Nat, 0 < k → k ≤ 1000000000000 → ∃ k' : Nat, k ≤ k' ∧ k' ≤ 4000000000000000000 ∧
  OKM P f [ow r, .int .i64 k] (treeH r) (fun _ _ r' H' => r' = .int .i64 k' ∧ NoFz H' ∧ OKM P g [ow r, .int .i64 k] H' (fun _ _ r' H'' => r' = .int .i64 k' ∧ H'' = H'))
theorem tok_row (b n : Nat) (xs : List AV) (h : ∀ x ∈ xs, tok x = true) : tok (.lsl (some (b, 1)) n xs) = true := by
  simp only [tok, (tokL_iff xs).2 h]
  rfl
theorem IsStr.tok {lo hi : Nat} {xs : List ByteArray} {r : AV} (h : IsStr lo hi xs r) : tok r = true := by
  rcases h with ⟨_, rfl⟩ | ⟨g, _, _, rfl⟩
  · rfl
  · exact tok_row _ _ _ fun x hx => by obtain ⟨s, _, rfl⟩ := List.mem_map.1 hx; rfl
theorem ow_strs (xs : List ByteArray) : owL (xs.map .str) = xs.map .str := by
  rw [owL_map, List.map_map]
  rfl
theorem ow_ints (xs : List Int) : owL (xs.map iz) = xs.map iz := by
  rw [owL_map, List.map_map]
  rfl
theorem tree_row (b n : Nat) (xs : List AV) : treeH (.lsl (some (b, 1)) n xs) b = some ⟨b, 1, owL xs, false, false, false⟩ := by
  simp [treeH, bl]
theorem strs_mark {lo hi : Nat} {xs : List ByteArray} {r : AV} (h : IsStr lo hi xs r) (ho : okL xs) : MarkA Go.Proofs.Tryd.prog 26 r 1000000 := by
  intro k h0 hk
  rcases h with ⟨_, rfl⟩ | ⟨g, _, _, rfl⟩
  · exact (s_markStringS0 k _).weak fun _ _ r' H' ⟨h, _⟩ => ⟨k, h, Nat.le_refl _, by omega⟩
  · have ht := tree_row g xs.length ((roomy xs).map .str)
    rw [ow_strs] at ht
    have := ho.1
    exact (s_markStringS g g xs.length k ((roomy xs).map .str) _ ht (by simp [roomy]) h0 (by omega)).weak fun _ _ r' H' ⟨h, _⟩ => ⟨_, h, by omega, by omega⟩
theorem updH_nofz {H : Hp} {d : Nat} {k : Blk} (h : NoFz H) (hk : k.fz = false) : NoFz (updH H d (some k)) := by
  intro d' k' h'
  rw [updH_at] at h'
  by_cases e : d' = d
  · rw [if_pos e] at h'
    obtain rfl := Option.some.inj h'
    exact hk
  · rw [if_neg e] at h'
    exact h _ _ h'
theorem RInts.new {lo hi : Nat} {l : List Int} {r : AV} (h : RInts lo hi l r) : New (ints l) lo hi r := by
  rcases h with ⟨rfl, rfl⟩ | ⟨g, h1, h2, rfl⟩
  · exact ⟨.emp, rfl, .nil⟩
  · refine ⟨Wk.strip _ _ _ (by simp), tok_row _ _ _ fun x hx => by obtain ⟨s, _, rfl⟩ := List.mem_map.1 hx; rfl, ?_⟩
    simp only [tags]
    rw [tagsL_none fun x hx => by obtain ⟨s, _, rfl⟩ := List.mem_map.1 hx; rfl]
    exact Tin.nil.cons (by simp) h1 h2
theorem strs_new {lo hi : Nat} {xs : List ByteArray} {r : AV} (h : IsStr lo hi xs r) : New (strs xs) lo hi r := ⟨h.wk, h.tok, h.tin⟩

/-! ### arguments that were there before -/
theorem older_strs (lo : Nat) (xs : List ByteArray) : (strs xs).older lo = .old lo (strs xs) := Eq.trans rfl rfl
theorem older_lv {α : Type} (e : α → AV) (lo : Nat) (xs : List α) : (lv e xs).older lo = .old lo (lv e xs) := Eq.trans rfl rfl
theorem older_int (lo : Nat) (k : IntKind) (n : Int) : (AV.int k n).older lo = .int k n := Eq.trans rfl rfl
theorem older_str (lo : Nat) (s : ByteArray) : (AV.str s).older lo = .str s := Eq.trans rfl rfl
theorem rd_old_strs (H : Hp) (N : Nat) (xs : List ByteArray) : rd3o false H (.old N (strs xs)) = some (strs xs, []) := rd_strs false H xs
theorem rd_old_lv {α : Type} (e : α → AV) (H : Hp) (N : Nat) (xs : List α) : rd3o false H (.old N (lv e xs)) = some (lv e xs, []) := rd_lv H xs
theorem av_old {B : Nat → Prop} {lo : Nat} (x : AV) (h : ∀ b, B b → lo ≤ b) : Av B (.old lo x) := .old lo x h
/-- what is in one stretch is not in one that lies apart -/
theorem av_apart {lo hi lo' hi' : Nat} {x y px py : AV} (hx : New px lo hi x) (hy : New py lo' hi' y) (h : hi ≤ lo' ∨ hi' ≤ lo) : Av (fun b => b ∈ tags x) y :=
  av_of y hy.2.1 fun b hb hb' => by
    have h1 := hx.2.2.2 b hb'
    have h2 := hy.2.2.2 b hb
    omega
/-- what toX gives, for a law that marks -/
def ToA (P : Program) (f : FuncId) (plain full : AV) (b : Bool) (lo hi : Nat) (r : AV) : Prop := New plain lo hi r ∧ (b = false → Wk r full) ∧ MarkA P f r 1000000000000000
theorem strs_toA (xs : List ByteArray) (b : Bool) (ho : okL xs) : OK Go.Proofs.Tryd.prog 71 [strs xs, .bool b] (fun lo hi r => ToA Go.Proofs.Tryd.prog 26 (strs xs) (strsF xs) b lo hi r) :=
  (s_toStringS xs b ho).weak fun lo hi r ⟨q, q'⟩ => ⟨strs_new q, fun hb => by obtain ⟨g, _, _, rfl⟩ := q' hb; exact Wk.strip _ _ _ (by simp [roomy]), fun k h0 hk => (strs_mark q ho k h0 hk).weak fun _ _ r' _ ⟨k', h1, h2, h3⟩ => ⟨k', h1, h2, by omega⟩⟩
theorem New.sz {plain r : AV} {lo hi : Nat} (h : New plain lo hi r) (hp : plain.sz = 1) : r.sz ≠ 0 := by
  rw [← h.1.kind.2, hp]
  decide
theorem New.ge {plain r : AV} {lo hi N : Nat} (h : New plain lo hi r) (hp : N ≤ lo) : ∀ b ∈ tags r, N ≤ b := fun b hb => by
  have := h.2.2.2 b hb
  omega
/-- what the program's function gives, for a law that marks -/
def ResR (P : Program) (f g : FuncId) (plain : AV) (lo hi : Nat) (r : AV) : Prop := New plain lo hi r ∧ MarkR P f g r
theorem mt_len : ∀ (xs ys : List ByteArray) (j : Nat), (mt xs ys j).length = xs.length
  | [], ys, j => by rw [mt_nil]; rfl
  | x :: xs, [], j => by rw [mt_nil2]; simp [mt_len xs [] j]
  | x :: xs, y :: ys, j => by
    rw [mt_cons]
    split
    · simp [mt_len xs ys (j + 1)]
    · split
      · simp [mt_len xs (y :: ys) j]
      · exact mt_len (x :: xs) ys (j + 1)
termination_by a b => a.length + b.length
theorem dmatch_len (xs ys : List ByteArray) : (dmatch xs ys).length ≤ 10 := by
  unfold dmatch
  split
  · rename_i h
    rw [mt_len]
    exact textOk_len h.1
  · simp
theorem ints_pl (xs : List Int) : Pl false (ints xs) := .fld _ (pf_ints xs)
end Go.AVM
