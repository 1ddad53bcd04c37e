/- Lists of hunks that are made: clones, rows. -/
import Derived.Test.YtnanbjnadkoekaaDoorFE1
import Derived.Test.YtnanbjnadkoekaaDoorFC0
set_option linter.unusedSimpArgs false
set_option linter.unusedVariables false
namespace Go.AVM
/-- a new list of strings, or none -/
def RStr (lo hi : Nat) (xs : List ByteArray) (r : AV) : Prop := (xs = [] ∧ r = .emp) ∨ ∃ g, lo ≤ g ∧ g < hi ∧ r = .lsl (some (g, 1)) xs.length (xs.map .str)
theorem RStr.sl {lo hi : Nat} {xs : List ByteArray} {r : AV} (h : RStr lo hi xs r) : SlOk r := by
  rcases h with ⟨_, rfl⟩ | ⟨g, _, _, rfl⟩
  · exact .inl rfl
  · exact .inr ⟨g, xs.length, xs, rfl, Nat.le_refl _⟩
theorem RStr.wk {lo hi : Nat} {xs : List ByteArray} {r : AV} (h : RStr lo hi xs r) : Wk r (strs xs) := by
  rcases h with ⟨rfl, rfl⟩ | ⟨g, _, _, rfl⟩
  · exact .emp
  · exact Wk.strip _ _ _ (by simp)
theorem RStr.len {lo hi : Nat} {xs : List ByteArray} {r : AV} (h : RStr lo hi xs r) : lenV r = xs.length := by
  rcases h with ⟨rfl, rfl⟩ | ⟨g, _, _, rfl⟩ <;> rfl
theorem RStr.tin {lo hi : Nat} {xs : List ByteArray} {r : AV} (h : RStr lo hi xs r) : Tin lo hi (tags r) := by
  rcases h with ⟨rfl, rfl⟩ | ⟨g, h1, h2, rfl⟩
  · exact .nil
  · simp only [tags, tagsL_strs]
    exact Tin.nil.cons (by simp) h1 h2
theorem RStr.fld {lo hi : Nat} {xs : List ByteArray} {r : AV} (h : RStr lo hi xs r) : r.isAgg = false ∧ r.sz = 1 := by
  rcases h with ⟨rfl, rfl⟩ | ⟨g, h1, h2, rfl⟩ <;> exact ⟨rfl, rfl⟩
theorem RStr.mono {lo hi lo' hi' : Nat} {xs : List ByteArray} {r : AV} (h : RStr lo hi xs r) (h1 : lo' ≤ lo) (h2 : hi ≤ hi') : RStr lo' hi' xs r :=
  h.imp id fun ⟨g, a, b, c⟩ => ⟨g, by omega, by omega, c⟩
theorem bnil_strs {xs : List ByteArray} {ne : Bool} {K : AV → Prop} (h1 : xs = [] → K (.bool true)) (h2 : K (.bool false)) (hn : ne = false) : bnil (strs xs) ne K := by
  subst hn
  cases xs with
  | nil =>
    intro b
    cases b
    · exact h2
    · exact h1 rfl
  | cons x xs => exact h2
theorem s_clone (xs : List ByteArray) (hx : xs.length ≤ 1000000) : OK Go.Proofs.Tryd.prog 68 [strs xs] (fun lo hi r => RStr lo hi xs r) := by
  refine fn_ok k68 rfl ?_
  generalize OK Go.Proofs.Tryd.prog = L at *
  intro lo
  simp -dsimp only [↓SD, SP, ↓reduceIte, Nat.reduceEqDiff, ini, frz, rdAo, rd3o, rd2o, rdpo, rd1o, fnv, intv, VOp.dst, getRo, solEo, solo, solo1, allsz, List.all_cons, List.all_nil, Bool.and_true, beq_self_eq_true, List.length_cons, List.length_nil, Nat.zero_add, srcv, Nat.le_refl, List.take_succ_cons, List.take_zero, and_self, if_true, Nat.reduceAdd, Nat.reduceLT, eq_self, c68]
  refine bnil_strs (fun e => ?_) ?_ rfl
  · simp -dsimp only [↓SD, SP, ↓reduceIte, Nat.reduceEqDiff, ini, frz, rdAo, rd3o, rd2o, rdpo, rd1o, fnv, intv, VOp.dst, getRo, solEo, solo, solo1, allsz, List.all_cons, List.all_nil, Bool.and_true, beq_self_eq_true, List.length_cons, List.length_nil, Nat.zero_add, srcv, Nat.le_refl, List.take_succ_cons, List.take_zero, and_self, if_true, Nat.reduceAdd, Nat.reduceLT, eq_self]
    exact .inl ⟨e, rfl⟩
  · simp -dsimp only [↓SD, SP, ↓reduceIte, Nat.reduceEqDiff, ini, frz, rdAo, rd3o, rd2o, rdpo, rd1o, fnv, intv, VOp.dst, getRo, solEo, solo, solo1, allsz, List.all_cons, List.all_nil, Bool.and_true, beq_self_eq_true, List.length_cons, List.length_nil, Nat.zero_add, srcv, Nat.le_refl, List.take_succ_cons, List.take_zero, and_self, if_true, Nat.reduceAdd, Nat.reduceLT, eq_self]
    refine bal_mk fun g hg => ?_
    have hz : (xs.map AV.str).all (fun x => x.sz == 1) = true := by simp [AV.sz]
    simp -dsimp only [↓SD, SP, ↓reduceIte, Nat.reduceEqDiff, ini, frz, rdAo, rd3o, rd2o, rdpo, rd1o, fnv, intv, VOp.dst, getRo, solEo, solo, solo1, allsz, List.all_cons, List.all_nil, Bool.and_true, beq_self_eq_true, List.length_cons, List.length_nil, Nat.zero_add, srcv, Nat.le_refl, List.take_succ_cons, List.take_zero, and_self, if_true, Nat.reduceAdd, Nat.reduceLT, eq_self, hz]
    refine app_own (row := true) (ex := true) (xs := []) ?_ (by simp) (by simp) (by simp; omega) (by simp; omega) fun b' n' g1 g2 => ?_
    · simp -dsimp only [↓SD, SP, ↓reduceIte, Nat.reduceEqDiff, ini, frz, rdAo, rd3o, rd2o, rdpo, rd1o, fnv, intv, VOp.dst, getRo, solEo, solo, solo1, allsz, List.all_cons, List.all_nil, Bool.and_true, beq_self_eq_true, List.length_cons, List.length_nil, Nat.zero_add, srcv, Nat.le_refl, List.take_succ_cons, List.take_zero, and_self, if_true, Nat.reduceAdd, Nat.reduceLT, eq_self]
    simp -dsimp only [↓SD, SP, ↓reduceIte, Nat.reduceEqDiff, ini, frz, rdAo, rd3o, rd2o, rdpo, rd1o, fnv, intv, VOp.dst, getRo, solEo, solo, solo1, allsz, List.all_cons, List.all_nil, Bool.and_true, beq_self_eq_true, List.length_cons, List.length_nil, Nat.zero_add, srcv, Nat.le_refl, List.take_succ_cons, List.take_zero, and_self, if_true, Nat.reduceAdd, Nat.reduceLT, eq_self, List.length_map]
    exact .inr ⟨b', by omega, by omega, rfl⟩
/-! ### rows of hunks -/
def HIs (h : HunkL) (r : HRow) : Prop := r.a = h.at_ ∧ Wk r.l1 (strs h.less) ∧ Wk r.l2 (strs h.more) ∧ SlOk r.l1 ∧ SlOk r.l2 ∧ lenV r.l1 = h.less.length ∧ lenV r.l2 = h.more.length
def HIsL (hs : List HunkL) (rs : List HRow) : Prop := hs.length = rs.length ∧ ∀ (i : Nat) (h : HunkL) (r : HRow), hs[i]? = some h → rs[i]? = some r → HIs h r
theorem HIsL.nil : HIsL [] [] := ⟨rfl, fun i h r e => by simp at e⟩
theorem HIsL.snoc {hs : List HunkL} {rs : List HRow} {h : HunkL} {r : HRow} (hh : HIsL hs rs) (hr : HIs h r) : HIsL (hs ++ [h]) (rs ++ [r]) := by
  refine ⟨by simp [hh.1], fun i h' r' e1 e2 => ?_⟩
  by_cases hi : i < hs.length
  · rw [List.getElem?_append_left hi] at e1
    rw [List.getElem?_append_left (by rw [← hh.1]; exact hi)] at e2
    exact hh.2 i h' r' e1 e2
  · rw [List.getElem?_append_right (by omega)] at e1
    rw [List.getElem?_append_right (by rw [← hh.1]; omega), ← hh.1] at e2
    cases hk : i - hs.length with
    | zero =>
      rw [hk] at e1 e2
      obtain rfl : h = h' := by simpa using e1
      obtain rfl : r = r' := by simpa using e2
      exact hr
    | succ k => rw [hk] at e1; simp at e1
theorem HIs.wk {h : HunkL} {r : HRow} (hh : HIs h r) : Wk r.v (hunkV h) := by
  obtain ⟨h1, h2, h3, _⟩ := hh
  unfold HRow.v hunkV
  rw [h1]
  exact wk_l3 (.refl _) h2 h3
/-- a new list of hunks, or none -/
def RHs (lo hi : Nat) (hs : List HunkL) (r : AV) : Prop := (hs = [] ∧ r = .emp) ∨ ∃ g rows, r = .lsl (some (g, 3)) hs.length (rows.map HRow.v) ∧ HIsL hs rows ∧ Tin lo hi (g :: rows.flatMap HRow.tg)
theorem RHs.mono {lo hi lo' hi' : Nat} {hs : List HunkL} {r : AV} (h : RHs lo hi hs r) (h1 : lo' ≤ lo) (h2 : hi ≤ hi') : RHs lo' hi' hs r :=
  h.imp id fun ⟨g, rows, a, b, c⟩ => ⟨g, rows, a, b, c.mono h1 h2⟩
theorem RHs.hsl {lo hi : Nat} {hs : List HunkL} {r : AV} (h : RHs lo hi hs r) (hl : hs.length ≤ 1000000) (hb : ∀ h ∈ hs, h.less.length ≤ 1000000 ∧ h.more.length ≤ 1000000) : HSl r := by
  rcases h with ⟨_, rfl⟩ | ⟨g, rows, rfl, ⟨h1, h2⟩, h3⟩
  · exact .inl rfl
  · refine .inr ⟨g, hs.length, rows, rfl, by omega, hl, fun r hr => ?_, h3.1⟩
    obtain ⟨i, hi, rfl⟩ := List.getElem_of_mem hr
    have hi' : i < hs.length := by omega
    obtain ⟨_, _, _, a, b, c, d⟩ := h2 i _ _ (List.getElem?_eq_getElem hi') (List.getElem?_eq_getElem hi)
    have := hb _ (List.getElem_mem hi')
    exact ⟨a, b, by omega, by omega⟩
theorem RHs.wk {lo hi : Nat} {hs : List HunkL} {r : AV} (h : RHs lo hi hs r) : Wk r (hunksV hs) := by
  rcases h with ⟨rfl, rfl⟩ | ⟨g, rows, rfl, ⟨h1, h2⟩, _⟩
  · exact .emp
  · refine .lsl _ _ _ _ (by simp) (by simp; omega) fun i x y hx hy => ?_
    rw [List.getElem?_map] at hx hy
    obtain ⟨h, hh, rfl⟩ := Option.map_eq_some_iff.1 hy
    obtain ⟨q, hq, rfl⟩ := Option.map_eq_some_iff.1 hx
    exact (h2 i h q hh hq).wk
theorem RHs.new {lo hi : Nat} {hs : List HunkL} {r : AV} (h : RHs lo hi hs r) (hl : hs.length ≤ 1000000) (hb : ∀ h ∈ hs, h.less.length ≤ 1000000 ∧ h.more.length ≤ 1000000) : New (hunksV hs) lo hi r := by
  refine ⟨h.wk, (h.hsl hl hb).tok, ?_⟩
  rcases h with ⟨_, rfl⟩ | ⟨g, rows, rfl, _, h3⟩
  · exact .nil
  · simp only [tags, tags_rows]
    exact h3
/-- a row more, behind the others -/
theorem tin_row {lo n n1 n' a b g b' : Nat} {l t : List Nat} (h : Tin lo n (g :: l)) (ht : Tin a b t) (h1 : n ≤ a) (h2 : b ≤ n1) (h3 : n1 ≤ n') (h4 : b' = g ∨ n1 ≤ b' ∧ b' < n') (h5 : n ≤ n1) : Tin lo n' (b' :: (l ++ t)) := by
  obtain ⟨h6, h7⟩ := h
  obtain ⟨h8, h9⟩ := List.nodup_cons.1 h6
  have hg := h7 g List.mem_cons_self
  have hl : ∀ b ∈ l, lo ≤ b ∧ b < n := fun b hb => h7 b (List.mem_cons_of_mem _ hb)
  have htt := ht.2
  refine ⟨List.nodup_cons.2 ⟨fun hm => ?_, List.nodup_append.2 ⟨h9, ht.1, fun x hx y hy e => ?_⟩⟩, fun x hx => ?_⟩
  · rcases List.mem_append.1 hm with hm | hm
    · rcases h4 with rfl | h4
      · exact h8 hm
      · have := hl _ hm; omega
    · have := htt _ hm; omega
  · subst e
    have := hl _ hx
    have := htt _ hy
    omega
  · rcases List.mem_cons.1 hx with rfl | hx
    · omega
    · rcases List.mem_append.1 hx with hx | hx
      · have := hl _ hx; omega
      · have := htt _ hx; omega
theorem tg_snoc (rows : List HRow) (r : HRow) : (rows ++ [r]).flatMap HRow.tg = rows.flatMap HRow.tg ++ (tags r.l1 ++ tags r.l2) := by simp [HRow.tg]
/-! ### what is put behind an empty literal, in whatever order -/
def UV (H : Hp) (n d : Nat) (xs : List ByteArray) (v : AV) (H' : Hp) : Prop := (xs = [] ∧ v = .emp ∧ H' = H) ∨ ∃ b, n ≤ b ∧ (∀ q k, H q = some k → k.b ≠ b) ∧ v = .own d b 1 xs.length ∧ H' = updH H d (some ⟨b, 1, xs.map .str, false, true, false⟩)
theorem ucl_strs {d n : Nat} {E : Env} {H : Hp} {K : Env → Hp → Nat → Prop} {xs : List ByteArray} {y : AV} (hd : H d = none) (hy : srcF y = some (xs.map .str)) (hl : xs.length ≤ 1000000) (hk : ∀ v H', UV H n d xs v H' → K (upd E d v) H' n) : bucl d 1 16 n y E H K := by
  refine ⟨hd, _, hy, ?_, by simp; omega, by simp; omega, fun e => ?_, fun e b hb hq => ?_⟩
  · intro z hz
    obtain ⟨s, _, rfl⟩ := List.mem_map.1 hz
    rfl
  · exact hk _ _ (.inl ⟨by simpa using e, rfl, rfl⟩)
  · have := hk _ _ (.inr ⟨b, hb, hq, rfl, rfl⟩)
    rwa [List.length_map]
theorem UV.fld {H H' : Hp} {n d : Nat} {xs : List ByteArray} {v : AV} (h : UV H n d xs v H') : v.isAgg = false ∧ v.sz = 1 := by
  rcases h with ⟨_, rfl, _⟩ | ⟨b, _, _, rfl, _⟩ <;> exact ⟨rfl, rfl⟩
theorem UV.other {H H' : Hp} {n d q : Nat} {xs : List ByteArray} {v : AV} (h : UV H n d xs v H') (hq : q ≠ d) : H' q = H q := by
  rcases h with ⟨_, _, rfl⟩ | ⟨b, _, _, _, rfl⟩
  · rfl
  · exact if_neg hq
theorem UV.sol {H H' : Hp} {n d : Nat} {xs : List ByteArray} {v : AV} (h : UV H n d xs v H') (H2 : Hp) (he : H2 d = H' d) (hd : H d = none) : ∃ l, solo1 H2 v = some (l, updH H2 d none) ∧ SlOk l ∧ Wk l (strs xs) ∧ lenV l = xs.length ∧ (tags l).Nodup ∧
    ∀ b ∈ tags l, n ≤ b ∧ (∃ k, H' d = some k ∧ k.b = b) ∧ ∀ q k, H q = some k → k.b ≠ b := by
  rcases h with ⟨rfl, rfl, rfl⟩ | ⟨b, hb, hq, rfl, rfl⟩
  · refine ⟨.emp, ?_, .inl rfl, .emp, rfl, List.nodup_nil, by simp [tags]⟩
    have : updH H2 d none = H2 := by
      funext q
      rw [updH_at]
      split
      · rename_i e; rw [e, he, hd]
      · rfl
    rw [this]
    rfl
  · rw [updH_at, if_pos rfl] at he
    refine ⟨.lsl (some (b, 1)) xs.length (xs.map .str), ?_, .inr ⟨b, xs.length, xs, rfl, Nat.le_refl _⟩, Wk.strip _ _ _ (by simp), rfl, ?_, ?_⟩
    · simp [solo1, he]
    · simp [tags, tagsL_strs]
    · intro b' hb'
      obtain rfl : b' = b := by simpa [tags, tagsL_strs] using hb'
      exact ⟨hb, ⟨_, if_pos rfl, rfl⟩, hq⟩
theorem uv2 {H H1 H2 : Hp} {n d1 d2 : Nat} {xs ys : List ByteArray} {v1 v2 : AV} (h1 : UV H n d1 xs v1 H1) (h2 : UV H1 n d2 ys v2 H2) (hd : d1 ≠ d2) (e1 : H d1 = none) (e2 : H d2 = none) (a : Int) : ∃ r : HRow, r.a = a ∧ solo H2 (.agg [.int .i64 a, v1, v2]) = some (r.v, H) ∧ HIs ⟨a, xs, ys⟩ r ∧
    ∀ n', (∀ q k, H2 q = some k → k.b < n') → Tin n n' (tags r.l1 ++ tags r.l2) := by
  have f1 : H1 d2 = none := by rw [h1.other (Ne.symm hd)]; exact e2
  have o1 : H2 d1 = H1 d1 := h2.other hd
  obtain ⟨l1, s1, a1, b1, c1, nd1, t1⟩ := h1.sol H2 o1 e1
  obtain ⟨l2, s2, a2, b2, c2, nd2, t2⟩ := h2.sol (updH H2 d1 none) (by rw [updH_at, if_neg (Ne.symm hd)]) f1
  have hH : updH (updH H2 d1 none) d2 none = H := by
    funext q
    rw [updH_at, updH_at]
    by_cases q2 : q = d2
    · rw [if_pos q2, q2, e2]
    · rw [if_neg q2]
      by_cases q1 : q = d1
      · rw [if_pos q1, q1, e1]
      · rw [if_neg q1, h2.other q2, h1.other q1]
  rw [hH] at s2
  refine ⟨⟨a, l1, l2⟩, rfl, ?_, ⟨rfl, b1, b2, a1, a2, c1, c2⟩, fun n' hn => ⟨List.nodup_append.2 ⟨nd1, nd2, fun x hx y hy e => ?_⟩, fun x hx => ?_⟩⟩
  · have h0 : ∀ H, solo1 H (.int .i64 a) = some (.int .i64 a, H) := fun _ => rfl
    simp only [solo, solso, h0, m_bind, s1, s2]
    rfl
  · subst e
    obtain ⟨k, hk, hkb⟩ := (t1 _ hx).2.1
    exact (t2 _ hy).2.2 d1 k hk hkb
  · rcases List.mem_append.1 hx with hx | hx
    · obtain ⟨k, hk, hkb⟩ := (t1 _ hx).2.1
      exact ⟨(t1 _ hx).1, hkb ▸ hn d1 k (by rw [o1]; exact hk)⟩
    · obtain ⟨k, hk, hkb⟩ := (t2 _ hx).2.1
      exact ⟨(t2 _ hx).1, hkb ▸ hn d2 k hk⟩
end Go.AVM
