/- Marks of lists of hunks. -/
import Derived.Test.YtflhfmpkmbhaiaaFD4
set_option linter.unusedSimpArgs false
set_option linter.unusedVariables false
namespace Go.AVM
/-- a list of strings in a row: none, or one with its own block -/
def SlOk (l : AV) : Prop := l = .emp ∨ ∃ (b m : Nat) (xs : List ByteArray), l = .lsl (some (b, 1)) m (xs.map AV.str) ∧ m ≤ xs.length
def SOrig (H : Hp) : AV → Prop
  | .lsl (some (b, _)) _ xs => H b = some ⟨b, 1, xs, false, false, false⟩
  | _ => True
def SHeld (H : Hp) (k : Nat) : AV → Prop
  | .lsl (some (b, _)) m _ => ∃ rest, H b = some ⟨b, 1, (mks k m).map .str ++ rest, false, false, false⟩
  | _ => True
def lenV : AV → Nat
  | .lsl _ m _ => m
  | _ => 0
theorem SlOk.fld {l : AV} (h : SlOk l) : (ow l).isAgg = false ∧ (ow l).sz = 1 := by
  rcases h with rfl | ⟨b, m, xs, rfl, _⟩ <;> exact ⟨rfl, rfl⟩
theorem SlOk.tok {l : AV} (h : SlOk l) : tok l = true := by
  rcases h with rfl | ⟨b, m, xs, rfl, _⟩
  · rfl
  · exact tok_row _ _ _ fun x hx => by obtain ⟨s, _, rfl⟩ := List.mem_map.1 hx; rfl
theorem SOrig.frame {H H' : Hp} {l : AV} (h : SOrig H l) (hf : ∀ q ∈ tags l, H' q = H q) : SOrig H' l := by
  unfold SOrig at *
  split <;> first | trivial | skip
  rw [hf _ (by simp [tags])]
  exact h
theorem SHeld.frame {H H' : Hp} {k : Nat} {l : AV} (h : SHeld H k l) (hf : ∀ q ∈ tags l, H' q = H q) : SHeld H' k l := by
  unfold SHeld at *
  split <;> first | trivial | skip
  rw [hf _ (by simp [tags])]
  exact h
theorem mark_sl (l : AV) (hl : SlOk l) (H : Hp) (hb : NoFz H) (ho : SOrig H l) (k : Nat) (h0 : 0 < k) (hk : k + lenV l ≤ 4000000000000000000) :
    OKM Go.Proofs.Try.prog 14 [ow l, .int .i64 k] H (fun _ _ r H' => r = .int .i64 (k + lenV l : Nat) ∧ NoFz H' ∧ SHeld H' k l ∧ ∀ q, q ∉ tags l → H' q = H q) := by
  rcases hl with rfl | ⟨b, m, xs, rfl, hm⟩
  · exact (s_markStringS0 k H).weak fun _ _ r H' ⟨h1, h2⟩ => ⟨h1, by rw [h2]; exact hb, trivial, fun q _ => by rw [h2]⟩
  · refine (s_markStringS b b m k (xs.map .str) H ho (by simpa using hm) h0 hk).weak fun _ _ r H' ⟨h1, h2⟩ => ⟨h1, by rw [h2]; exact updH_nofz hb rfl, ⟨(xs.map .str).drop m, by rw [h2]; exact if_pos rfl⟩, fun q hq => ?_⟩
    rw [h2]
    exact if_neg fun e => hq (by simp [tags, e])
theorem held_sl (l : AV) (hl : SlOk l) (H : Hp) (k : Nat) (ho : SHeld H k l) (h0 : 0 < k) (hk : k + lenV l ≤ 4000000000000000000) :
    OKM Go.Proofs.Try.prog 31 [ow l, .int .i64 k] H (fun _ _ r H' => r = .int .i64 (k + lenV l : Nat) ∧ H' = H) := by
  rcases hl with rfl | ⟨b, m, xs, rfl, hm⟩
  · exact s_heldStringS0 k H
  · obtain ⟨rest, hr⟩ := ho
    exact s_heldStringS b b m k rest H hr h0 hk
structure HRow where
  a : Int
  l1 : AV
  l2 : AV
def HRow.v (r : HRow) : AV := .agg [.int .i64 r.a, r.l1, r.l2]
def HRow.o (r : HRow) : AV := .agg [.int .i64 r.a, ow r.l1, ow r.l2]
def HRow.tg (r : HRow) : List Nat := tags r.l1 ++ tags r.l2
def HRow.ok (r : HRow) : Prop := SlOk r.l1 ∧ SlOk r.l2 ∧ lenV r.l1 ≤ 1000000 ∧ lenV r.l2 ≤ 1000000
/-- the number that row i is marked with -/
def hk (k : Nat) : List HRow → Nat
  | [] => k
  | r :: rs => hk (k + 1 + lenV r.l1 + lenV r.l2) rs
theorem hk_snoc (k : Nat) (rs : List HRow) (r : HRow) : hk k (rs ++ [r]) = hk k rs + 1 + lenV r.l1 + lenV r.l2 := by
  induction rs generalizing k with
  | nil => rfl
  | cons q rs ih => simp [hk, ih]
theorem hk_le (k : Nat) (rs : List HRow) (h : ∀ r ∈ rs, r.ok) : k ≤ hk k rs ∧ hk k rs ≤ k + rs.length * 2000001 := by
  induction rs generalizing k with
  | nil => exact ⟨Nat.le_refl _, by simp [hk]⟩
  | cons q rs ih =>
    obtain ⟨_, _, h1, h2⟩ := h q List.mem_cons_self
    obtain ⟨h3, h4⟩ := ih (k + 1 + lenV q.l1 + lenV q.l2) fun r hr => h r (List.mem_cons_of_mem _ hr)
    simp only [hk, List.length_cons]
    omega
/-- the rows as they are once marked -/
def hmk (k : Nat) : List HRow → List AV
  | [] => []
  | r :: rs => .agg [.int .i64 k, ow r.l1, ow r.l2] :: hmk (k + 1 + lenV r.l1 + lenV r.l2) rs
theorem hmk_len (k : Nat) (rs : List HRow) : (hmk k rs).length = rs.length := by
  induction rs generalizing k with
  | nil => rfl
  | cons q rs ih => simp [hmk, ih]
theorem hmk_snoc (k : Nat) (rs : List HRow) (r : HRow) : hmk k (rs ++ [r]) = hmk k rs ++ [.agg [.int .i64 (hk k rs), ow r.l1, ow r.l2]] := by
  induction rs generalizing k with
  | nil => rfl
  | cons q rs ih => simp [hmk, hk, ih]
/-- what the lists in the rows hold, once marked -/
def HHeld (H : Hp) (k : Nat) : List HRow → Prop
  | [] => True
  | r :: rs => SHeld H (k + 1) r.l1 ∧ SHeld H (k + 1 + lenV r.l1) r.l2 ∧ HHeld H (k + 1 + lenV r.l1 + lenV r.l2) rs
theorem HHeld.snoc {H : Hp} {k : Nat} {rs : List HRow} {r : HRow} (h : HHeld H k rs) (h1 : SHeld H (hk k rs + 1) r.l1) (h2 : SHeld H (hk k rs + 1 + lenV r.l1) r.l2) : HHeld H k (rs ++ [r]) := by
  induction rs generalizing k with
  | nil => exact ⟨h1, h2, trivial⟩
  | cons q rs ih => exact ⟨h.1, h.2.1, ih h.2.2 h1 h2⟩
theorem HHeld.frame {H H' : Hp} {k : Nat} {rs : List HRow} (h : HHeld H k rs) (hf : ∀ r ∈ rs, ∀ q ∈ r.tg, H' q = H q) : HHeld H' k rs := by
  induction rs generalizing k with
  | nil => trivial
  | cons r rs ih =>
    have := hf r List.mem_cons_self
    exact ⟨h.1.frame fun q hq => this q (List.mem_append_left _ hq), h.2.1.frame fun q hq => this q (List.mem_append_right _ hq), ih h.2.2 fun r hr => hf r (List.mem_cons_of_mem _ hr)⟩
theorem HHeld.get {H : Hp} {k : Nat} {rs rest : List HRow} {r : HRow} (h : HHeld H k (rs ++ r :: rest)) : SHeld H (hk k rs + 1) r.l1 ∧ SHeld H (hk k rs + 1 + lenV r.l1) r.l2 := by
  induction rs generalizing k with
  | nil => exact ⟨h.1, h.2.1⟩
  | cons q rs ih => exact ih h.2.2
theorem st_fld {H : Hp} {d b s i j : Nat} {xs fs : List AV} {ex : Bool} {v : AV} (hH : H d = some ⟨b, s, xs, false, false, ex⟩) (hx : xs[i]? = some (.agg fs)) (hl : fs.length = s) (hj : j < s) (hv : v.isAgg = false ∧ v.sz = 1) :
    stv H none v (.optr d b s i (some j)) = some (updH H d (some ⟨b, s, xs.set i (.agg (fs.set j v)), false, false, ex⟩)) := by
  rw [stv_f, if_pos ⟨by rw [fz_none, hv.1]; rfl, hv.2⟩, hH]
  simp [hx, setf, hl, hj]
theorem ld_fld {H : Hp} {d b s i j : Nat} {xs fs : List AV} {fz row ex : Bool} {v : AV} (hH : H d = some ⟨b, s, xs, fz, row, ex⟩) (hx : xs[i]? = some (.agg fs)) (hj : fs[j]? = some v) (hv : v.isAgg = false) : ldv H none (.optr d b s i (some j)) = some v := by
  rw [ldv_f, hH]
  simp [hx, fldv, hj, hv]
theorem f_optr (d b s i f : Nat) (h : f < s) : fldAv f (.optr d b s i none) = some (.optr d b s i (some f)) := by simp [fldAv, h]
theorem s_markHunkS (g n k : Nat) (rows : List HRow) (H0 : Hp) (hn : n ≤ rows.length) (hn2 : n ≤ 1000000) (hok : ∀ r ∈ rows, r.ok) (hnd : (g :: rows.flatMap HRow.tg).Nodup) (hH : H0 g = some ⟨g, 3, rows.map HRow.o, false, false, false⟩)
    (ho : ∀ r ∈ rows, SOrig H0 r.l1 ∧ SOrig H0 r.l2) (hfz : NoFz H0) (h0 : 0 < k) (hk1 : k ≤ 1000000000000000000) :
    OKM Go.Proofs.Try.prog 15 [.own g g 3 n, .int .i64 k] H0 (fun _ _ r H' => r = .int .i64 (hk k (rows.take n) : Nat) ∧ NoFz H' ∧ HHeld H' k (rows.take n) ∧ ∃ rest, H' g = some ⟨g, 3, hmk k (rows.take n) ++ rest, false, false, false⟩) := by
  refine fn_okM k15 rfl ?_
  have hms := mark_sl
  generalize OKM Go.Proofs.Try.prog = M at *
  intro lo hlo
  simp -dsimp only [↓SD, SP, ↓reduceIte, Nat.reduceEqDiff, ini, frz, rdAo, rd3o, rd2o, rdpo, rd1o, fnv, intv, VOp.dst, getRo, solEo, solo, solo1, allsz, List.all_cons, List.all_nil, Bool.and_true, beq_self_eq_true, List.length_cons, List.length_nil, Nat.zero_add, srcv, Nat.le_refl, List.take_succ_cons, List.take_zero, and_self, if_true, Nat.reduceAdd, Nat.reduceLT, eq_self, c15]
  refine loop_rule (fun m E H _ => ∃ i : Nat, m + i = n ∧ E 0 = .own g g 3 n ∧ E 1 = .int .i64 (hk k (rows.take i) : Nat) ∧ E 5 = .int .i64 i ∧ NoFz H ∧ H g = some ⟨g, 3, hmk k (rows.take i) ++ (rows.map HRow.o).drop i, false, false, false⟩ ∧ HHeld H k (rows.take i) ∧ ∀ r ∈ rows.drop i, SOrig H r.l1 ∧ SOrig H r.l2)
    (fun e E H _ => e = .exit 0 ∧ E 1 = .int .i64 (hk k (rows.take n) : Nat) ∧ NoFz H ∧ HHeld H k (rows.take n) ∧ ∃ rest, H g = some ⟨g, 3, hmk k (rows.take n) ++ rest, false, false, false⟩) n ⟨0, rfl, rfl, rfl, rfl, hfz, by simpa [hmk] using hH, trivial, by simpa using ho⟩ ?_ ?_
  · rintro e E H n' ⟨rfl, h1, h2, h3, h4⟩
    simp -dsimp only [↓SD, SP, ↓reduceIte, Nat.reduceEqDiff, ini, frz, rdAo, rd3o, rd2o, rdpo, rd1o, fnv, intv, VOp.dst, getRo, solEo, solo, solo1, allsz, List.all_cons, List.all_nil, Bool.and_true, beq_self_eq_true, List.length_cons, List.length_nil, Nat.zero_add, srcv, Nat.le_refl, List.take_succ_cons, List.take_zero, and_self, if_true, Nat.reduceAdd, Nat.reduceLT, eq_self, h1, noTup]
    exact ⟨trivial, h2, h3, h4⟩
  · rintro m E H n' Q K ⟨i, hm, h0', h1, h5, hf, hHg, hheld, horig⟩ hQ hK
    by_cases hi : i < n
    · have hir : i < rows.length := by omega
      have hok' := hok rows[i] (List.getElem_mem hir)
      obtain ⟨o1, o2, n1, n2⟩ := hok'
      obtain ⟨kb1, kb2⟩ := hk_le k (rows.take i) fun r hr => hok r (List.mem_of_mem_take hr)
      have hti : (rows.take i).length = i := by simp; omega
      rw [hti] at kb2
      have htk : rows.take (i + 1) = rows.take i ++ [rows[i]] := List.take_succ_eq_append_getElem hir
      have hdr : rows.drop i = rows[i] :: rows.drop (i + 1) := List.drop_eq_getElem_cons hir
      have hml : (hmk k (rows.take i)).length = i := by rw [hmk_len, hti]
      have hget : (hmk k (rows.take i) ++ (rows.map HRow.o).drop i)[i]? = some rows[i].o := by
        rw [List.getElem?_append_right (by omega), hml, Nat.sub_self, List.getElem?_drop]
        simp [hir]
      have hst := st_fld (j := 0) (v := .int .i64 (hk k (rows.take i) : Nat)) hHg hget rfl (by decide) ⟨rfl, rfl⟩
      have hset : (hmk k (rows.take i) ++ (rows.map HRow.o).drop i).set i (.agg ([AV.int .i64 rows[i].a, ow rows[i].l1, ow rows[i].l2].set 0 (.int .i64 (hk k (rows.take i) : Nat)))) = hmk k (rows.take (i + 1)) ++ (rows.map HRow.o).drop (i + 1) := by
        rw [htk, hmk_snoc, List.set_append_right _ _ (by omega), hml, Nat.sub_self, List.drop_eq_getElem_cons (by simpa using hir), List.set_cons_zero, List.append_assoc]
        rfl
      rw [hset] at hst
      -- the blocks are all different
      have hall : rows.flatMap HRow.tg = (rows.take i).flatMap HRow.tg ++ (rows[i].tg ++ (rows.drop (i + 1)).flatMap HRow.tg) := by
        calc rows.flatMap HRow.tg = (rows.take i ++ rows.drop i).flatMap HRow.tg := by rw [List.take_append_drop]
          _ = _ := by rw [List.flatMap_append, hdr, List.flatMap_cons]
      rw [hall] at hnd
      obtain ⟨hng, hnd'⟩ := List.nodup_cons.1 hnd
      obtain ⟨hd1, hd2, hd3⟩ := List.nodup_append.1 hnd'
      obtain ⟨hd4, hd5, hd6⟩ := List.nodup_append.1 hd2
      obtain ⟨hd7, hd8, hd9⟩ := List.nodup_append.1 hd4
      obtain ⟨s1, s2⟩ := horig rows[i] (by rw [hdr]; exact List.mem_cons_self)
      have hg1 : g ∉ tags rows[i].l1 := fun h => hng (List.mem_append_right _ (List.mem_append_left _ (List.mem_append_left _ h)))
      have hg2 : g ∉ tags rows[i].l2 := fun h => hng (List.mem_append_right _ (List.mem_append_left _ (List.mem_append_right _ h)))
      have hl1 : (ow rows[i].l1).isAgg = false := o1.fld.1
      have hl2 : (ow rows[i].l2).isAgg = false := o2.fld.1
      obtain ⟨H1, hH1⟩ : ∃ H1, H1 = updH H g (some ⟨g, 3, hmk k (rows.take (i + 1)) ++ (rows.map HRow.o).drop (i + 1), false, false, false⟩) := ⟨_, rfl⟩
      rw [← hH1] at hst
      have hH1g : H1 g = some ⟨g, 3, hmk k (rows.take (i + 1)) ++ (rows.map HRow.o).drop (i + 1), false, false, false⟩ := by rw [hH1]; exact if_pos rfl
      have hH1q : ∀ q, q ≠ g → H1 q = H q := fun q hq => by rw [hH1]; exact if_neg hq
      have hf1 : NoFz H1 := by rw [hH1]; exact updH_nofz hf rfl
      have hget1 : (hmk k (rows.take (i + 1)) ++ (rows.map HRow.o).drop (i + 1))[i]? = some (.agg [.int .i64 (hk k (rows.take i) : Nat), ow rows[i].l1, ow rows[i].l2]) := by
        rw [htk, hmk_snoc, List.append_assoc, List.getElem?_append_right (by omega), hml, Nat.sub_self]
        rfl
      have hld1 := ld_fld (j := 1) hH1g hget1 rfl hl1
      simp -dsimp only [↓SD, SP, ↓reduceIte, Nat.reduceEqDiff, ini, frz, rdAo, rd3o, rd2o, rdpo, rd1o, fnv, intv, VOp.dst, getRo, solEo, solo, solo1, allsz, List.all_cons, List.all_nil, Bool.and_true, beq_self_eq_true, List.length_cons, List.length_nil, Nat.zero_add, srcv, Nat.le_refl, List.take_succ_cons, List.take_zero, and_self, if_true, Nat.reduceAdd, Nat.reduceLT, eq_self, h0', h1, h5, Int.ofNat_lt, hi, x_own g g 3 n i hi, f_optr, hst, wrap64 ((hk k (rows.take i) : Int) + 1) (by omega), hld1]
      refine callm_all (hms rows[i].l1 o1 H1 hf1 (s1.frame fun q hq => hH1q q fun e => hg1 (e ▸ hq)) (hk k (rows.take i) + 1) (by omega) (by omega)) hf1 ?_
      rintro lo2 hi2 r H2 - - ⟨rfl, hf2, hh2, hfr2⟩
      have hH2g : H2 g = _ := (hfr2 g hg1).trans hH1g
      have hld2 := ld_fld (j := 2) hH2g hget1 rfl hl2
      simp -dsimp only [↓SD, SP, ↓reduceIte, Nat.reduceEqDiff, ini, frz, rdAo, rd3o, rd2o, rdpo, rd1o, fnv, intv, VOp.dst, getRo, solEo, solo, solo1, allsz, List.all_cons, List.all_nil, Bool.and_true, beq_self_eq_true, List.length_cons, List.length_nil, Nat.zero_add, srcv, Nat.le_refl, List.take_succ_cons, List.take_zero, and_self, if_true, Nat.reduceAdd, Nat.reduceLT, eq_self, h0', h5, x_own g g 3 n i hi, f_optr, hld2]
      refine callm_all (hms rows[i].l2 o2 H2 hf2 (s2.frame fun q hq => ?_) (hk k (rows.take i) + 1 + lenV rows[i].l1) (by omega) (by omega)) hf2 ?_
      · rw [hfr2 q fun h => hd9 q h q hq rfl, hH1q q fun e => hg2 (e ▸ hq)]
      rintro lo3 hi3 r H3 - - ⟨rfl, hf3, hh3, hfr3⟩
      simp -dsimp only [↓SD, SP, ↓reduceIte, Nat.reduceEqDiff, ini, frz, rdAo, rd3o, rd2o, rdpo, rd1o, fnv, intv, VOp.dst, getRo, solEo, solo, solo1, allsz, List.all_cons, List.all_nil, Bool.and_true, beq_self_eq_true, List.length_cons, List.length_nil, Nat.zero_add, srcv, Nat.le_refl, List.take_succ_cons, List.take_zero, and_self, if_true, Nat.reduceAdd, Nat.reduceLT, eq_self, h0', h5, wrap64 ((i : Int) + 1) (by omega)]
      refine hK (m - 1) _ _ _ (by omega) ⟨i + 1, by omega, ?_, ?_, ?_, hf3, (hfr3 g hg2).trans hH2g, ?_, fun r hr => ?_⟩
      · simp -dsimp only [↓SD, SP, ↓reduceIte, Nat.reduceEqDiff, ini, frz, rdAo, rd3o, rd2o, rdpo, rd1o, fnv, intv, VOp.dst, getRo, solEo, solo, solo1, allsz, List.all_cons, List.all_nil, Bool.and_true, beq_self_eq_true, List.length_cons, List.length_nil, Nat.zero_add, srcv, Nat.le_refl, List.take_succ_cons, List.take_zero, and_self, if_true, Nat.reduceAdd, Nat.reduceLT, eq_self, h0']
      · simp -dsimp only [↓SD, SP, ↓reduceIte, Nat.reduceEqDiff, ini, frz, rdAo, rd3o, rd2o, rdpo, rd1o, fnv, intv, VOp.dst, getRo, solEo, solo, solo1, allsz, List.all_cons, List.all_nil, Bool.and_true, beq_self_eq_true, List.length_cons, List.length_nil, Nat.zero_add, srcv, Nat.le_refl, List.take_succ_cons, List.take_zero, and_self, if_true, Nat.reduceAdd, Nat.reduceLT, eq_self, htk, hk_snoc]
      · simp -dsimp only [↓SD, SP, ↓reduceIte, Nat.reduceEqDiff, ini, frz, rdAo, rd3o, rd2o, rdpo, rd1o, fnv, intv, VOp.dst, getRo, solEo, solo, solo1, allsz, List.all_cons, List.all_nil, Bool.and_true, beq_self_eq_true, List.length_cons, List.length_nil, Nat.zero_add, srcv, Nat.le_refl, List.take_succ_cons, List.take_zero, and_self, if_true, Nat.reduceAdd, Nat.reduceLT, eq_self, Int.natCast_add, Int.natCast_one]
      · rw [htk]
        refine HHeld.snoc (hheld.frame fun r hr q hq => ?_) (hh2.frame fun q hq => hfr3 q fun h => hd9 q hq q h rfl) hh3
        have hmem : q ∈ (rows.take i).flatMap HRow.tg := List.mem_flatMap.2 ⟨r, hr, hq⟩
        rw [hfr3 q fun h => hd3 q hmem q (List.mem_append_left _ (List.mem_append_right _ h)) rfl, hfr2 q fun h => hd3 q hmem q (List.mem_append_left _ (List.mem_append_left _ h)) rfl, hH1q q fun e => hng (e ▸ List.mem_append_left _ hmem)]
      · obtain ⟨t1, t2⟩ := horig r (by rw [hdr]; exact List.mem_cons_of_mem _ hr)
        have fr : ∀ q ∈ r.tg, H3 q = H q := fun q hq => by
          have hmem : q ∈ (rows.drop (i + 1)).flatMap HRow.tg := List.mem_flatMap.2 ⟨r, hr, hq⟩
          rw [hfr3 q fun h => hd6 q (List.mem_append_right _ h) q hmem rfl, hfr2 q fun h => hd6 q (List.mem_append_left _ h) q hmem rfl, hH1q q fun e => hng (e ▸ List.mem_append_right _ (List.mem_append_right _ hmem))]
        exact ⟨t1.frame fun q hq => fr q (List.mem_append_left _ hq), t2.frame fun q hq => fr q (List.mem_append_right _ hq)⟩
    · simp -dsimp only [↓SD, SP, ↓reduceIte, Nat.reduceEqDiff, ini, frz, rdAo, rd3o, rd2o, rdpo, rd1o, fnv, intv, VOp.dst, getRo, solEo, solo, solo1, allsz, List.all_cons, List.all_nil, Bool.and_true, beq_self_eq_true, List.length_cons, List.length_nil, Nat.zero_add, srcv, Nat.le_refl, List.take_succ_cons, List.take_zero, and_self, if_true, Nat.reduceAdd, Nat.reduceLT, eq_self, h0', h5, Int.ofNat_lt, hi]
      obtain rfl : i = n := by omega
      exact hQ _ _ _ _ ⟨rfl, h1, hf, hheld, _, hHg⟩
theorem s_heldHunkS (g n k : Nat) (rows : List HRow) (rest : List AV) (H0 : Hp) (hn : n = rows.length) (hn2 : n ≤ 1000000) (hok : ∀ r ∈ rows, r.ok) (hH : H0 g = some ⟨g, 3, hmk k rows ++ rest, false, false, false⟩) (hh : HHeld H0 k rows) (hfz : NoFz H0) (h0 : 0 < k) (hk1 : k ≤ 1000000000000000000) :
    OKM Go.Proofs.Try.prog 16 [.own g g 3 n, .int .i64 k] H0 (fun _ _ r H' => r = .int .i64 (hk k rows : Nat) ∧ H' = H0) := by
  refine fn_okM k16 rfl ?_
  have hms := held_sl
  generalize OKM Go.Proofs.Try.prog = M at *
  intro lo hlo
  simp -dsimp only [↓SD, SP, ↓reduceIte, Nat.reduceEqDiff, ini, frz, rdAo, rd3o, rd2o, rdpo, rd1o, fnv, intv, VOp.dst, getRo, solEo, solo, solo1, allsz, List.all_cons, List.all_nil, Bool.and_true, beq_self_eq_true, List.length_cons, List.length_nil, Nat.zero_add, srcv, Nat.le_refl, List.take_succ_cons, List.take_zero, and_self, if_true, Nat.reduceAdd, Nat.reduceLT, eq_self, c16]
  refine loop_rule (fun m E H _ => ∃ i : Nat, m + i = n ∧ E 0 = .own g g 3 n ∧ E 1 = .int .i64 (hk k (rows.take i) : Nat) ∧ E 5 = .int .i64 i ∧ H = H0)
    (fun e E H _ => e = .exit 0 ∧ E 1 = .int .i64 (hk k rows : Nat) ∧ H = H0) n ⟨0, rfl, rfl, rfl, rfl, rfl⟩ ?_ ?_
  · rintro e E H n' ⟨rfl, h1, rfl⟩
    simp -dsimp only [↓SD, SP, ↓reduceIte, Nat.reduceEqDiff, ini, frz, rdAo, rd3o, rd2o, rdpo, rd1o, fnv, intv, VOp.dst, getRo, solEo, solo, solo1, allsz, List.all_cons, List.all_nil, Bool.and_true, beq_self_eq_true, List.length_cons, List.length_nil, Nat.zero_add, srcv, Nat.le_refl, List.take_succ_cons, List.take_zero, and_self, if_true, Nat.reduceAdd, Nat.reduceLT, eq_self, h1, noTup]
  · rintro m E H n' Q K ⟨i, hm, h0', h1, h5, rfl⟩ hQ hK
    by_cases hi : i < n
    · have hir : i < rows.length := by omega
      obtain ⟨o1, o2, n1, n2⟩ := hok rows[i] (List.getElem_mem hir)
      obtain ⟨kb1, kb2⟩ := hk_le k (rows.take i) fun r hr => hok r (List.mem_of_mem_take hr)
      have hti : (rows.take i).length = i := by simp; omega
      rw [hti] at kb2
      have htk : rows.take (i + 1) = rows.take i ++ [rows[i]] := List.take_succ_eq_append_getElem hir
      have hdr : rows.drop i = rows[i] :: rows.drop (i + 1) := List.drop_eq_getElem_cons hir
      have hsplit : rows = rows.take i ++ rows[i] :: rows.drop (i + 1) := by rw [← hdr, List.take_append_drop]
      obtain ⟨s1, s2⟩ : SHeld H (hk k (rows.take i) + 1) rows[i].l1 ∧ SHeld H (hk k (rows.take i) + 1 + lenV rows[i].l1) rows[i].l2 := by
        refine HHeld.get (rest := rows.drop (i + 1)) ?_
        rw [← hsplit]
        exact hh
      have hmk' : ∀ (k : Nat) (rs rest : List HRow) (r : HRow), (hmk k (rs ++ r :: rest))[rs.length]? = some (.agg [.int .i64 (hk k rs : Nat), ow r.l1, ow r.l2]) := by
        intro k rs
        induction rs generalizing k with
        | nil => intro rest r; rfl
        | cons q rs ih => intro rest r; exact ih _ rest r
      have hget : (hmk k rows ++ rest)[i]? = some (.agg [.int .i64 (hk k (rows.take i) : Nat), ow rows[i].l1, ow rows[i].l2]) := by
        rw [List.getElem?_append_left (by rw [hmk_len]; exact hir)]
        have := hmk' k (rows.take i) (rows.drop (i + 1)) rows[i]
        rw [← hsplit, hti] at this
        exact this
      have hl1 : (ow rows[i].l1).isAgg = false := o1.fld.1
      have hl2 : (ow rows[i].l2).isAgg = false := o2.fld.1
      have ld0 := ld_fld (j := 0) hH hget rfl (ia_int _ _)
      have ld1 := ld_fld (j := 1) hH hget rfl hl1
      have ld2 := ld_fld (j := 2) hH hget rfl hl2
      simp -dsimp only [↓SD, SP, ↓reduceIte, Nat.reduceEqDiff, ini, frz, rdAo, rd3o, rd2o, rdpo, rd1o, fnv, intv, VOp.dst, getRo, solEo, solo, solo1, allsz, List.all_cons, List.all_nil, Bool.and_true, beq_self_eq_true, List.length_cons, List.length_nil, Nat.zero_add, srcv, Nat.le_refl, List.take_succ_cons, List.take_zero, and_self, if_true, Nat.reduceAdd, Nat.reduceLT, eq_self, h0', h1, h5, Int.ofNat_lt, hi, x_own g g 3 n i hi, f_optr, ld0, ld1, wrap64 ((hk k (rows.take i) : Int) + 1) (by omega)]
      refine callm_all (hms rows[i].l1 o1 H (hk k (rows.take i) + 1) s1 (by omega) (by omega)) hfz ?_
      rintro lo2 hi2 r H2 - - ⟨rfl, rfl⟩
      simp -dsimp only [↓SD, SP, ↓reduceIte, Nat.reduceEqDiff, ini, frz, rdAo, rd3o, rd2o, rdpo, rd1o, fnv, intv, VOp.dst, getRo, solEo, solo, solo1, allsz, List.all_cons, List.all_nil, Bool.and_true, beq_self_eq_true, List.length_cons, List.length_nil, Nat.zero_add, srcv, Nat.le_refl, List.take_succ_cons, List.take_zero, and_self, if_true, Nat.reduceAdd, Nat.reduceLT, eq_self, h0', h5, x_own g g 3 n i hi, f_optr, ld2, show ¬ ((hk k (rows.take i) + 1 + lenV rows[i].l1 : Nat) : Int) < 0 by omega]
      refine callm_all (hms rows[i].l2 o2 _ (hk k (rows.take i) + 1 + lenV rows[i].l1) s2 (by omega) (by omega)) hfz ?_
      rintro lo3 hi3 r H3 - - ⟨rfl, rfl⟩
      simp -dsimp only [↓SD, SP, ↓reduceIte, Nat.reduceEqDiff, ini, frz, rdAo, rd3o, rd2o, rdpo, rd1o, fnv, intv, VOp.dst, getRo, solEo, solo, solo1, allsz, List.all_cons, List.all_nil, Bool.and_true, beq_self_eq_true, List.length_cons, List.length_nil, Nat.zero_add, srcv, Nat.le_refl, List.take_succ_cons, List.take_zero, and_self, if_true, Nat.reduceAdd, Nat.reduceLT, eq_self, h5, show ¬ ((hk k (rows.take i) + 1 + lenV rows[i].l1 + lenV rows[i].l2 : Nat) : Int) < 0 by omega, wrap64 ((i : Int) + 1) (by omega)]
      refine hK (m - 1) _ _ _ (by omega) ⟨i + 1, by omega, ?_, ?_, ?_, rfl⟩
      · simp -dsimp only [↓SD, SP, ↓reduceIte, Nat.reduceEqDiff, ini, frz, rdAo, rd3o, rd2o, rdpo, rd1o, fnv, intv, VOp.dst, getRo, solEo, solo, solo1, allsz, List.all_cons, List.all_nil, Bool.and_true, beq_self_eq_true, List.length_cons, List.length_nil, Nat.zero_add, srcv, Nat.le_refl, List.take_succ_cons, List.take_zero, and_self, if_true, Nat.reduceAdd, Nat.reduceLT, eq_self, h0']
      · simp -dsimp only [↓SD, SP, ↓reduceIte, Nat.reduceEqDiff, ini, frz, rdAo, rd3o, rd2o, rdpo, rd1o, fnv, intv, VOp.dst, getRo, solEo, solo, solo1, allsz, List.all_cons, List.all_nil, Bool.and_true, beq_self_eq_true, List.length_cons, List.length_nil, Nat.zero_add, srcv, Nat.le_refl, List.take_succ_cons, List.take_zero, and_self, if_true, Nat.reduceAdd, Nat.reduceLT, eq_self, htk, hk_snoc]
      · simp -dsimp only [↓SD, SP, ↓reduceIte, Nat.reduceEqDiff, ini, frz, rdAo, rd3o, rd2o, rdpo, rd1o, fnv, intv, VOp.dst, getRo, solEo, solo, solo1, allsz, List.all_cons, List.all_nil, Bool.and_true, beq_self_eq_true, List.length_cons, List.length_nil, Nat.zero_add, srcv, Nat.le_refl, List.take_succ_cons, List.take_zero, and_self, if_true, Nat.reduceAdd, Nat.reduceLT, eq_self, Int.natCast_add, Int.natCast_one]
    · simp -dsimp only [↓SD, SP, ↓reduceIte, Nat.reduceEqDiff, ini, frz, rdAo, rd3o, rd2o, rdpo, rd1o, fnv, intv, VOp.dst, getRo, solEo, solo, solo1, allsz, List.all_cons, List.all_nil, Bool.and_true, beq_self_eq_true, List.length_cons, List.length_nil, Nat.zero_add, srcv, Nat.le_refl, List.take_succ_cons, List.take_zero, and_self, if_true, Nat.reduceAdd, Nat.reduceLT, eq_self, h0', h5, Int.ofNat_lt, hi]
      rw [List.take_of_length_le (by omega)] at h1
      exact hQ _ _ _ _ ⟨rfl, h1, rfl⟩
theorem s_markHunkS0 (k : Nat) (H0 : Hp) : OKM Go.Proofs.Try.prog 15 [.emp, .int .i64 k] H0 (fun _ _ r H' => r = .int .i64 k ∧ H' = H0) := by
  refine fn_okM k15 rfl ?_
  generalize OK Go.Proofs.Try.prog = L at *
  intro lo hlo
  simp -dsimp only [↓SD, SP, ↓reduceIte, Nat.reduceEqDiff, ini, frz, rdAo, rd3o, rd2o, rdpo, rd1o, fnv, intv, VOp.dst, getRo, solEo, solo, solo1, allsz, List.all_cons, List.all_nil, Bool.and_true, beq_self_eq_true, List.length_cons, List.length_nil, Nat.zero_add, srcv, Nat.le_refl, List.take_succ_cons, List.take_zero, and_self, if_true, Nat.reduceAdd, Nat.reduceLT, eq_self, c15]
  refine loop_rule (fun m E H _ => E 0 = .emp ∧ E 1 = .int .i64 k ∧ E 5 = .int .i64 0 ∧ H = H0) (fun e E H _ => e = .exit 0 ∧ E 1 = .int .i64 k ∧ H = H0) 0 ⟨rfl, rfl, rfl, rfl⟩ ?_ ?_
  · rintro e E H n' ⟨rfl, h1, rfl⟩
    simp -dsimp only [↓SD, SP, ↓reduceIte, Nat.reduceEqDiff, ini, frz, rdAo, rd3o, rd2o, rdpo, rd1o, fnv, intv, VOp.dst, getRo, solEo, solo, solo1, allsz, List.all_cons, List.all_nil, Bool.and_true, beq_self_eq_true, List.length_cons, List.length_nil, Nat.zero_add, srcv, Nat.le_refl, List.take_succ_cons, List.take_zero, and_self, if_true, Nat.reduceAdd, Nat.reduceLT, eq_self, h1, noTup]
  · rintro m E H n' Q K ⟨h0', h1, h5, rfl⟩ hQ hK
    simp -dsimp only [↓SD, SP, ↓reduceIte, Nat.reduceEqDiff, ini, frz, rdAo, rd3o, rd2o, rdpo, rd1o, fnv, intv, VOp.dst, getRo, solEo, solo, solo1, allsz, List.all_cons, List.all_nil, Bool.and_true, beq_self_eq_true, List.length_cons, List.length_nil, Nat.zero_add, srcv, Nat.le_refl, List.take_succ_cons, List.take_zero, and_self, if_true, Nat.reduceAdd, Nat.reduceLT, eq_self, h0', h1, h5, Int.natCast_zero, Int.lt_irrefl]
    exact hQ _ _ _ _ ⟨rfl, h1, rfl⟩
theorem s_heldHunkS0 (k : Nat) (H0 : Hp) : OKM Go.Proofs.Try.prog 16 [.emp, .int .i64 k] H0 (fun _ _ r H' => r = .int .i64 k ∧ H' = H0) := by
  refine fn_okM k16 rfl ?_
  generalize OK Go.Proofs.Try.prog = L at *
  intro lo hlo
  simp -dsimp only [↓SD, SP, ↓reduceIte, Nat.reduceEqDiff, ini, frz, rdAo, rd3o, rd2o, rdpo, rd1o, fnv, intv, VOp.dst, getRo, solEo, solo, solo1, allsz, List.all_cons, List.all_nil, Bool.and_true, beq_self_eq_true, List.length_cons, List.length_nil, Nat.zero_add, srcv, Nat.le_refl, List.take_succ_cons, List.take_zero, and_self, if_true, Nat.reduceAdd, Nat.reduceLT, eq_self, c16]
  refine loop_rule (fun m E H _ => E 0 = .emp ∧ E 1 = .int .i64 k ∧ E 5 = .int .i64 0 ∧ H = H0) (fun e E H _ => e = .exit 0 ∧ E 1 = .int .i64 k ∧ H = H0) 0 ⟨rfl, rfl, rfl, rfl⟩ ?_ ?_
  · rintro e E H n' ⟨rfl, h1, rfl⟩
    simp -dsimp only [↓SD, SP, ↓reduceIte, Nat.reduceEqDiff, ini, frz, rdAo, rd3o, rd2o, rdpo, rd1o, fnv, intv, VOp.dst, getRo, solEo, solo, solo1, allsz, List.all_cons, List.all_nil, Bool.and_true, beq_self_eq_true, List.length_cons, List.length_nil, Nat.zero_add, srcv, Nat.le_refl, List.take_succ_cons, List.take_zero, and_self, if_true, Nat.reduceAdd, Nat.reduceLT, eq_self, h1, noTup]
  · rintro m E H n' Q K ⟨h0', h1, h5, rfl⟩ hQ hK
    simp -dsimp only [↓SD, SP, ↓reduceIte, Nat.reduceEqDiff, ini, frz, rdAo, rd3o, rd2o, rdpo, rd1o, fnv, intv, VOp.dst, getRo, solEo, solo, solo1, allsz, List.all_cons, List.all_nil, Bool.and_true, beq_self_eq_true, List.length_cons, List.length_nil, Nat.zero_add, srcv, Nat.le_refl, List.take_succ_cons, List.take_zero, and_self, if_true, Nat.reduceAdd, Nat.reduceLT, eq_self, h0', h1, h5, Int.natCast_zero, Int.lt_irrefl]
    exact hQ _ _ _ _ ⟨rfl, h1, rfl⟩

/-- a list of hunks, whole: none, or one whose rows have blocks of their own -/
def HSl (r : AV) : Prop := r = .emp ∨ ∃ (g n : Nat) (rows : List HRow), r = .lsl (some (g, 3)) n (rows.map HRow.v) ∧ n ≤ rows.length ∧ n ≤ 1000000 ∧ (∀ r ∈ rows, r.ok) ∧ (g :: rows.flatMap HRow.tg).Nodup
theorem HRow.ow (r : HRow) : ow r.v = r.o := rfl
theorem tags_rows (rows : List HRow) : tagsL (rows.map HRow.v) = rows.flatMap HRow.tg := by
  induction rows with
  | nil => rfl
  | cons r rs ih => simp [tagsL, ih, HRow.v, HRow.tg, tags]
theorem tok_rows (rows : List HRow) (h : ∀ r ∈ rows, r.ok) : tokL (rows.map HRow.v) = true := (tokL_iff _).2 fun x hx => by
  obtain ⟨r, hr, rfl⟩ := List.mem_map.1 hx
  obtain ⟨h1, h2, _⟩ := h r hr
  simp [HRow.v, tok, tokL, h1.tok, h2.tok]
theorem HSl.tok {r : AV} (h : HSl r) : tok r = true := by
  rcases h with rfl | ⟨g, n, rows, rfl, _, _, hok, _⟩
  · rfl
  · simp only [Go.AVM.tok, tok_rows rows hok]
    rfl
theorem mem_blL {xs : List AV} {x : AV} {p : Nat × Blk} (hx : x ∈ xs) (hp : p ∈ bl x) : p ∈ blL xs := by
  induction xs with
  | nil => cases hx
  | cons y ys ih =>
    simp only [blL]
    rcases List.mem_cons.1 hx with rfl | hx
    · exact List.mem_append_left _ hp
    · exact List.mem_append_right _ (ih hx)
theorem sorig_of {H : Hp} {l : AV} (hl : SlOk l) (h : ∀ p ∈ bl l, H p.1 = some p.2) : SOrig H l := by
  rcases hl with rfl | ⟨b, m, xs, rfl, _⟩
  · trivial
  · have := h (b, ⟨b, 1, owL (xs.map .str), false, false, false⟩) (by simp [bl])
    rw [ow_strs] at this
    exact this
theorem HSl.tree {g n : Nat} {rows : List HRow} (hok : ∀ r ∈ rows, r.ok) (hnd : (g :: rows.flatMap HRow.tg).Nodup) : treeH (.lsl (some (g, 3)) n (rows.map HRow.v)) g = some ⟨g, 3, rows.map HRow.o, false, false, false⟩ ∧
    ∀ r ∈ rows, SOrig (treeH (.lsl (some (g, 3)) n (rows.map HRow.v))) r.l1 ∧ SOrig (treeH (.lsl (some (g, 3)) n (rows.map HRow.v))) r.l2 := by
  have hh := treeH_holds (x := .lsl (some (g, 3)) n (rows.map HRow.v)) (by simp only [Go.AVM.tok, tok_rows rows hok]; rfl) (by simp only [tags, tags_rows]; exact hnd)
  have how : owL (rows.map HRow.v) = rows.map HRow.o := by rw [owL_map, List.map_map]; rfl
  refine ⟨?_, fun r hr => ?_⟩
  · have := hh (g, ⟨g, 3, owL (rows.map HRow.v), false, false, false⟩) (by simp [bl])
    rw [how] at this
    exact this
  · obtain ⟨h1, h2, _⟩ := hok r hr
    have hm : ∀ p ∈ bl r.v, treeH (.lsl (some (g, 3)) n (rows.map HRow.v)) p.1 = some p.2 := fun p hp => hh p (by
      simp only [bl]
      exact List.mem_cons_of_mem _ (mem_blL (List.mem_map.2 ⟨r, hr, rfl⟩) hp))
    exact ⟨sorig_of h1 fun p hp => hm p (by simp [HRow.v, bl, blL, hp]), sorig_of h2 fun p hp => hm p (by simp [HRow.v, bl, blL, hp])⟩
theorem HSl.markA {r : AV} (h : HSl r) : MarkA Go.Proofs.Try.prog 15 r 1000000000000000 := by
  intro k h0 hk1
  rcases h with rfl | ⟨g, n, rows, rfl, hn, hn2, hok, hnd⟩
  · exact (s_markHunkS0 k _).weak fun _ _ r' H' ⟨h, _⟩ => ⟨k, h, Nat.le_refl _, by omega⟩
  · obtain ⟨t1, t2⟩ := HSl.tree (n := n) hok hnd
    obtain ⟨b1, b2⟩ := hk_le k (rows.take n) fun r hr => hok r (List.mem_of_mem_take hr)
    have hl : (rows.take n).length = n := by simp; omega
    rw [hl] at b2
    exact (s_markHunkS g n k rows _ hn hn2 hok hnd t1 t2 treeH_fz h0 hk1).weak fun _ _ r' H' ⟨h, _⟩ => ⟨_, h, b1, by omega⟩
theorem HSl.markR {r : AV} (h : HSl r) : MarkR Go.Proofs.Try.prog 15 16 r := by
  intro k h0 hk1
  rcases h with rfl | ⟨g, n, rows, rfl, hn, hn2, hok, hnd⟩
  · exact ⟨k, Nat.le_refl _, by omega, (s_markHunkS0 k _).weak fun _ _ r' H' ⟨h, hH⟩ => ⟨h, by rw [hH]; exact treeH_fz, s_heldHunkS0 k H'⟩⟩
  · obtain ⟨t1, t2⟩ := HSl.tree (n := n) hok hnd
    have hok' : ∀ r ∈ rows.take n, r.ok := fun r hr => hok r (List.mem_of_mem_take hr)
    obtain ⟨b1, b2⟩ := hk_le k (rows.take n) hok'
    have hl : (rows.take n).length = n := by simp; omega
    rw [hl] at b2
    exact ⟨hk k (rows.take n), b1, by omega, (s_markHunkS g n k rows _ hn hn2 hok hnd t1 t2 treeH_fz h0 (by omega)).weak fun _ _ r' H' ⟨h1, h2, h3, rest, h4⟩ => ⟨h1, h2, s_heldHunkS g n k (rows.take n) rest H' hl.symm hn2 hok' h4 h3 h2 h0 (by omega)⟩⟩
end Go.AVM
