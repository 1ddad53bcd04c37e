/- Marks of lists of hunks. -/
import Derived.Test.YtflhfmpkmbhaiaaMC
set_option linter.unusedSimpArgs false
set_option linter.unusedVariables false
namespace Go.AVM
/-- a list of strings in a row: none, or one with its own block -/
def SlOk (l : AV) : Prop := l = .emp ∨ ∃ (b m : Nat) (xs : List ByteArray), l = .lsl (some (b, 1)) m (xs.map AV.str) ∧ m ≤ xs.length
def SOrig (H : Hp) : AV → Prop
  | .lsl (some (b, _)) _ xs => H b = some ⟨b, 1, xs, false, false, false⟩
  | _ => True
def SHeld (H : Hp) (k : Nat) : AV → Prop
  | .lsl (some (b, _)) m _ => ∃ rest, H b = some ⟨b, 1, (mks k m).map .str ++ rest, false, false, false⟩
  | _ => True
def lenV : AV → Nat
  | .lsl _ m _ => m
  | _ => 0
theorem SlOk.fld {l : AV} (h : SlOk l) : (ow l).isAgg = false ∧ (ow l).sz = 1 := by
  rcases h with rfl | ⟨b, m, xs, rfl, _⟩ <;> exact ⟨rfl, rfl⟩
theorem SlOk.tok {l : AV} (h : SlOk l) : tok l = true := by
  rcases h with rfl | ⟨b, m, xs, rfl, _⟩
  · rfl
  · exact tok_row _ _ _ fun x hx => by obtain ⟨s, _, rfl⟩ := List.mem_map.1 hx; rfl
theorem SOrig.frame {H H' : Hp} {l : AV} (h : SOrig H l) (hf : ∀ q ∈ tags l, H' q = H q) : SOrig H' l := by
  unfold SOrig at *
  split <;> first | trivial | skip
  rw [hf _ (by simp [tags])]
  exact h
theorem SHeld.frame {H H' : Hp} {k : Nat} {l : AV} (h : SHeld H k l) (hf : ∀ q ∈ tags l, H' q = H q) : SHeld H' k l := by
  unfold SHeld at *
  split <;> first | trivial | skip
  rw [hf _ (by simp [tags])]
  exact h
theorem mark_sl (l : AV) (hl : SlOk l) (H : Hp) (hb : NoFz H) (ho : SOrig H l) (k : Nat) (h0 : 0 < k) (hk : k + lenV l ≤ 4000000000000000000) :
    OKM Go.Proofs.Try.prog 14 [ow l, .int .i64 k] H (fun _ _ r H' => r = .int .i64 (k + lenV l : Nat) ∧ NoFz H' ∧ SHeld H' k l ∧ ∀ q, q ∉ tags l → H' q = H q) := by
  rcases hl with rfl | ⟨b, m, xs, rfl, hm⟩
  · exact (s_markStringS0 k H).weak fun _ _ r H' ⟨h1, h2⟩ => ⟨h1, by rw [h2]; exact hb, trivial, fun q _ => by rw [h2]⟩
  · refine (s_markStringS b b m k (xs.map .str) H ho (by simpa using hm) h0 hk).weak fun _ _ r H' ⟨h1, h2⟩ => ⟨h1, by rw [h2]; exact updH_nofz hb rfl, ⟨(xs.map .str).drop m, by rw [h2]; exact if_pos rfl⟩, fun q hq => ?_⟩
    rw [h2]
    exact if_neg fun e => hq (by simp [tags, e])
theorem held_sl (l : AV) (hl : SlOk l) (H : Hp) (k : Nat) (ho : SHeld H k l) (h0 : 0 < k) (hk : k + lenV l ≤ 4000000000000000000) :
    OKM Go.Proofs.Try.prog 31 [ow l, .int .i64 k] H (fun _ _ r H' => r = .int .i64 (k + lenV l : Nat) ∧ H' = H) := by
  rcases hl with rfl | ⟨b, m, xs, rfl, hm⟩
  · exact s_heldStringS0 k H
  · obtain ⟨rest, hr⟩ := ho
    exact s_heldStringS b b m k rest H hr h0 hk
structure HRow where
  a : Int
  l1 : AV
  l2 : AV
def HRow.v (r : HRow) : AV := .agg [.int .i64 r.a, r.l1, r.l2]
def HRow.o (r : HRow) : AV := .agg [.int .i64 r.a, ow r.l1, ow r.l2]
def HRow.tg (r : HRow) : List Nat := tags r.l1 ++ tags r.l2
def HRow.ok (r : HRow) : Prop := SlOk r.l1 ∧ SlOk r.l2 ∧ lenV r.l1 ≤ 1000000 ∧ lenV r.l2 ≤ 1000000
/-- the number that row i is marked with -/
def hk (k : Nat) : List HRow → Nat
  | [] => k
  | r :: rs => hk (k + 1 + lenV r.l1 + lenV r.l2) rs
theorem hk_snoc (k : Nat) (rs : List HRow) (r : HRow) : hk k (rs ++ [r]) = hk k rs + 1 + lenV r.l1 + lenV r.l2 := by
  induction rs generalizing k with
  | nil => rfl
  | cons q rs ih => simp [hk, ih]
theorem hk_le (k : Nat) (rs : List HRow) (h : ∀ r ∈ rs, r.ok) : k ≤ hk k rs ∧ hk k rs ≤ k + rs.length * 2000001 := by
  induction rs generalizing k with
  | nil => exact ⟨Nat.le_refl _, by simp [hk]⟩
  | cons q rs ih =>
    obtain ⟨_, _, h1, h2⟩ := h q List.mem_cons_self
    obtain ⟨h3, h4⟩ := ih (k + 1 + lenV q.l1 + lenV q.l2) fun r hr => h r (List.mem_cons_of_mem _ hr)
    simp only [hk, List.length_cons]
    omega
/-- the rows as they are once marked -/
def hmk (k : Nat) : List HRow → List AV
  | [] => []
  | r :: rs => .agg [.int .i64 k, ow r.l1, ow r.l2] :: hmk (k + 1 + lenV r.l1 + lenV r.l2) rs
theorem hmk_len (k : Nat) (rs : List HRow) : (hmk k rs).length = rs.length := by
  induction rs generalizing k with
  | nil => rfl
  | cons q rs ih => simp [hmk, ih]
theorem hmk_snoc (k : Nat) (rs : List HRow) (r : HRow) : hmk k (rs ++ [r]) = hmk k rs ++ [.agg [.int .i64 (hk k rs), ow r.l1, ow r.l2]] := by
  induction rs generalizing k with
  | nil => rfl
  | cons q rs ih => simp [hmk, hk, ih]
/-- what the lists in the rows hold, once marked -/
def HHeld (H : Hp) (k : Nat) : List HRow → Prop
  | [] => True
  | r :: rs => SHeld H (k + 1) r.l1 ∧ SHeld H (k + 1 + lenV r.l1) r.l2 ∧ HHeld H (k + 1 + lenV r.l1 + lenV r.l2) rs
theorem HHeld.snoc {H : Hp} {k : Nat} {rs : List HRow} {r : HRow} (h : HHeld H k rs) (h1 : SHeld H (hk k rs + 1) r.l1) (h2 : SHeld H (hk k rs + 1 + lenV r.l1) r.l2) : HHeld H k (rs ++ [r]) := by
  induction rs generalizing k with
  | nil => exact ⟨h1, h2, trivial⟩
  | cons q rs ih => exact ⟨h.1, h.2.1, ih h.2.2 h1 h2⟩
theorem HHeld.frame {H H' : Hp} {k : Nat} {rs : List HRow} (h : HHeld H k rs) (hf : ∀ r ∈ rs, ∀ q ∈ r.tg, H' q = H q) : HHeld H' k rs := by
  induction rs generalizing k with
  | nil => trivial
  | cons r rs ih =>
    have := hf r List.mem_cons_self
    exact ⟨h.1.frame fun q hq => this q (List.mem_append_left _ hq), h.2.1.frame fun q hq => this q (List.mem_append_right _ hq), ih h.2.2 fun r hr => hf r (List.mem_cons_of_mem _ hr)⟩
theorem HHeld.get {H : Hp} {k : Nat} {rs rest : List HRow} {r : HRow} (h : HHeld H k (rs ++ r :: rest)) : SHeld H (hk k rs + 1) r.l1 ∧ SHeld H (hk k rs + 1 + lenV r.l1) r.l2 := by
  induction rs generalizing k with
  | nil => exact ⟨h.1, h.2.1⟩
  | cons q rs ih => exact ih h.2.2
theorem st_fld {H : Hp} {d b s i j : Nat} {xs fs : List AV} {ex : Bool} {v : AV} (hH : H d = some ⟨b, s, xs, false, false, ex⟩) (hx : xs[i]? = some (.agg fs)) (hl : fs.length = s) (hj : j < s) (hv : v.isAgg = false ∧ v.sz = 1) :
    stv H none v (.optr d b s i (some j)) = some (updH H d (some ⟨b, s, xs.set i (.agg (fs.set j v)), false, false, ex⟩)) := by
  rw [stv_f, if_pos ⟨by rw [fz_none, hv.1]; rfl, hv.2⟩, hH]
  simp [hx, setf, hl, hj]
theorem ld_fld {H : Hp} {d b s i j : Nat} {xs fs : List AV} {fz row ex : Bool} {v : AV} (hH : H d = some ⟨b, s, xs, fz, row, ex⟩) (hx : xs[i]? = some (.agg fs)) (hj : fs[j]? = some v) (hv : v.isAgg = false) : ldv H none (.optr d b s i (some j)) = some v := by
  rw [ldv_f, hH]
  simp [hx, fldv, hj, hv]
theorem f_optr (d b s i f : Nat) (h : f < s) : fldAv f (.optr d b s i none) = some (.optr d b s i (some f)) := by simp [fldAv, h]
theorem s_markHunkS (g n k : Nat) (rows : List HRow) (H0 : Hp) (hn : n ≤ rows.length) (hn2 : n ≤ 1000000) (hok : ∀ r ∈ rows, r.ok) (hnd : (g :: rows.flatMap HRow.tg).Nodup) (hH : H0 g = some ⟨g, 3, rows.map HRow.o, false, false, false⟩)
    (ho : ∀ r ∈ rows, SOrig H0 r.l1 ∧ SOrig H0 r.l2) (hfz : NoFz H0) (h0 : 0 < k) (hk1 : k ≤ 1000000000000000000) :
    OKM Go.Proofs.Try.prog 15 [.own g g 3 n, .int .i64 k] H0 (fun _ _ r H' => r = .int .i64 (hk k (rows.take n) : Nat) ∧ NoFz H' ∧ HHeld H' k (rows.take n) ∧ ∃ rest, H' g = some ⟨g, 3, hmk k (rows.take n) ++ rest, false, false, false⟩) := by
  refine fn_okM k15 rfl ?_
  have hms := mark_sl
  generalize OKM Go.Proofs.Try.prog = M at *
  intro lo hlo
  simp -dsimp only [↓SD, SP, ↓reduceIte, Nat.reduceEqDiff, ini, frz, rdAo, rd3o, rd2o, rdpo, rd1o, fnv, intv, VOp.dst, getRo, solEo, solo, solo1, allsz, List.all_cons, List.all_nil, Bool.and_true, beq_self_eq_true, List.length_cons, List.length_nil, Nat.zero_add, srcv, Nat.le_refl, List.take_succ_cons, List.take_zero, and_self, if_true, Nat.reduceAdd, Nat.reduceLT, eq_self, c15]
  refine loop_rule (fun m E H _ => ∃ i : Nat, m + i = n ∧ E 0 = .own g g 3 n ∧ E 1 = .int .i64 (hk k (rows.take i) : Nat) ∧ E 5 = .int .i64 i ∧ NoFz H ∧ H g = some ⟨g, 3, hmk k (rows.take i) ++ (rows.map HRow.o).drop i, false, false, false⟩ ∧ HHeld H k (rows.take i) ∧ ∀ r ∈ rows.drop i, SOrig H r.l1 ∧ SOrig H r.l2)
    (fun e E H _ => e = .exit 0 ∧ E 1 = .int .i64 (hk k (rows.take n) : Nat) ∧ NoFz H ∧ HHeld H k (rows.take n) ∧ ∃ rest, H g = some ⟨g, 3, hmk k (rows.take n) ++ rest, false, false, false⟩) n ⟨0, rfl, rfl, rfl, rfl, hfz, by simpa [hmk] using hH, trivial, by simpa using ho⟩ ?_ ?_
  · rintro e E H n' ⟨rfl, h1, h2, h3, h4⟩
    simp -dsimp only [↓SD, SP, ↓reduceIte, Nat.reduceEqDiff, ini, frz, rdAo, rd3o, rd2o, rdpo, rd1o, fnv, intv, VOp.dst, getRo, solEo, solo, solo1, allsz, List.all_cons, List.all_nil, Bool.and_true, beq_self_eq_true, List.length_cons, List.length_nil, Nat.zero_add, srcv, Nat.le_refl, List.take_succ_cons, List.take_zero, and_self, if_true, Nat.reduceAdd, Nat.reduceLT, eq_self, h1, noTup]
    exact ⟨trivial, h2, h3, h4⟩
  · rintro m E H n' Q K ⟨i, hm, h0', h1, h5, hf, hHg, hheld, horig⟩ hQ hK
    by_cases hi : i < n
    · have hir : i < rows.length := by omega
      have hok' := hok rows[i] (List.getElem_mem hir)
      obtain ⟨o1, o2, n1, n2⟩ := hok'
      obtain ⟨kb1, kb2⟩ := hk_le k (rows.take i) fun r hr => hok r (List.mem_of_mem_take hr)
      have hti : (rows.take i).length = i := by simp; omega
      rw [hti] at kb2
      have htk : rows.take (i + 1) = rows.take i ++ [rows[i]] := List.take_succ_eq_append_getElem hir
      have hdr : rows.drop i = rows[i] :: rows.drop (i + 1) := List.drop_eq_getElem_cons hir
      have hml : (hmk k (rows.take i)).length = i := by rw [hmk_len, hti]
      have hget : (hmk k (rows.take i) ++ (rows.map HRow.o).drop i)[i]? = some rows[i].o := by
        rw [List.getElem?_append_right (by omega), hml, Nat.sub_self, List.getElem?_drop]
        simp [hir]
      have hst := st_fld (j := 0) (v := .int .i64 (hk k (rows.take i) : Nat)) hHg hget rfl (by decide) ⟨rfl, rfl⟩
      have hset : (hmk k (rows.take i) ++ (rows.map HRow.o).drop i).set i (.agg ([AV.int .i64 rows[i].a, ow rows[i].l1, ow rows[i].l2].set 0 (.int .i64 (hk k (rows.take i) : Nat)))) = hmk k (rows.take (i + 1)) ++ (rows.map HRow.o).drop (i + 1) := by
        rw [htk, hmk_snoc, List.set_append_right _ _ (by omega), hml, Nat.sub_self, List.drop_eq_getElem_cons (by simpa using hir), List.set_cons_zero, List.append_assoc]
        rfl
      rw [hset] at hst
      -- the blocks are all different
      have hall : rows.flatMap HRow.tg = (rows.take i).flatMap HRow.tg ++ (rows[i].tg ++ (rows.drop (i + 1)).flatMap HRow.tg) := by
        calc rows.flatMap HRow.tg = (rows.take i ++ rows.drop i).flatMap HRow.tg := by rw [List.take_append_drop]
          _ = _ := by rw [List.flatMap_append, hdr, List.flatMap_cons]
      rw [hall] at hnd
      obtain ⟨hng, hnd'⟩ := List.nodup_cons.1 hnd
      obtain ⟨hd1, hd2, hd3⟩ := List.nodup_append.1 hnd'
      obtain ⟨hd4, hd5, hd6⟩ := List.nodup_append.1 hd2
      obtain ⟨hd7, hd8, hd9⟩ := List.nodup_append.1 hd4
      obtain ⟨s1, s2⟩ := horig rows[i] (by rw [hdr]; exact List.mem_cons_self)
      have hg1 : g ∉ tags rows[i].l1 := fun h => hng (List.mem_append_right _ (List.mem_append_left _ (List.mem_append_left _ h)))
      have hg2 : g ∉ tags rows[i].l2 := fun h => hng (List.mem_append_right _ (List.mem_append_left _ (List.mem_append_right _ h)))
      have hl1 : (ow rows[i].l1).isAgg = false := o1.fld.1
      have hl2 : (ow rows[i].l2).isAgg = false := o2.fld.1
      obtain ⟨H1, hH1⟩ : ∃ H1, H1 = updH H g (some ⟨g, 3, hmk k (rows.take (i + 1)) ++ (rows.map HRow.o).drop (i + 1), false, false, false⟩) := ⟨_, rfl⟩
      rw [← hH1] at hst
      have hH1g : H1 g = some ⟨g, 3, hmk k (rows.take (i + 1)) ++ (rows.map HRow.o).drop (i + 1), false, false, false⟩ := by rw [hH1]; exact if_pos rfl
      have hH1q : ∀ q, q ≠ g → H1 q = H q := fun q hq => by rw [hH1]; exact if_neg hq
      have hf1 : NoFz H1 := by rw [hH1]; exact updH_nofz hf rfl
      have hget1 : (hmk k (rows.take (i + 1)) ++ (rows.map HRow.o).drop (i + 1))[i]? = some (.agg [.int .i64 (hk k (rows.take i) : Nat), ow rows[i].l1, ow rows[i].l2]) := by
        rw [htk, hmk_snoc, List.append_assoc, List.getElem?_append_right (by omega), hml, Nat.sub_self]
        rfl
      have hld1 := ld_fld (j := 1) hH1g hget1 rfl hl1
      simp -dsimp only [↓SD, SP, ↓reduceIte, Nat.reduceEqDiff, ini, frz, rdAo, rd3o, rd2o, rdpo, rd1o, fnv, intv, VOp.dst, getRo, solEo, solo, solo1, allsz, List.all_cons, List.all_nil, Bool.and_true, beq_self_eq_true, List.length_cons, List.length_nil, Nat.zero_add, srcv, Nat.le_refl, List.take_succ_cons, List.take_zero, and_self, if_true, Nat.reduceAdd, Nat.reduceLT, eq_self, h0', h1, h5, Int.ofNat_lt, hi, x_own g g 3 n i hi, f_optr, hst, wrap64 ((hk k (rows.take i) : Int) + 1) (by omega), hld1]
      refine callm_all (hms rows[i].l1 o1 H1 hf1 (s1.frame fun q hq => hH1q q fun e => hg1 (e ▸ hq)) (hk k (rows.take i) + 1) (by omega) (by omega)) hf1 ?_
      rintro lo2 hi2 r H2 - - ⟨rfl, hf2, hh2, hfr2⟩
      have hH2g : H2 g = _ := (hfr2 g hg1).trans hH1g
      have hld2 := ld_fld (j := 2) hH2g hget1 rfl hl2
      simp -dsimp only [↓SD, SP, ↓reduceIte, Nat.reduceEqDiff, ini, frz, rdAo, rd3o, rd2o, rdpo, rd1o, fnv, intv, VOp.dst, getRo, solEo, solo, solo1, allsz, List.all_cons, List.all_nil, Bool.and_true, beq_self_eq_true, List.length_cons, List.length_nil, Nat.zero_add, srcv, Nat.le_refl, List.take_succ_cons, List.take_zero, and_self, if_true, Nat.reduceAdd, Nat.reduceLT, eq_self, h0', h5, x_own g g 3 n i hi, f_optr, hld2]
      refine callm_all (hms rows[i].l2 o2 H2 hf2 (s2.frame fun q hq => ?_) (hk k (rows.take i) + 1 + lenV rows[i].l1) (by omega) (by omega)) hf2 ?_
      · rw [hfr2 q fun h => hd9 q h q hq rfl, hH1q q fun e => hg2 (e ▸ hq)]
      rintro lo3 hi3 r H3 - - ⟨rfl, hf3, hh3, hfr3⟩
      simp -dsimp only [↓SD, SP, ↓reduceIte, Nat.reduceEqDiff, ini, frz, rdAo, rd3o, rd2o, rdpo, rd1o, fnv, intv, VOp.dst, getRo, solEo, solo, solo1, allsz, List.all_cons, List.all_nil, Bool.and_true, beq_self_eq_true, List.length_cons, List.length_nil, Nat.zero_add, srcv, Nat.le_refl, List.take_succ_cons, List.take_zero, and_self, if_true, Nat.reduceAdd, Nat.reduceLT, eq_self, h0', h5, wrap64 ((i : Int) + 1) (by omega)]
      refine hK (m - 1) _ _ _ (by omega) ⟨i + 1, by omega, ?_, ?_, ?_, hf3, (hfr3 g hg2).trans hH2g, ?_, fun r hr => ?_⟩
      · simp -dsimp only [↓SD, SP, ↓reduceIte, Nat.reduceEqDiff, ini, frz, rdAo, rd3o, rd2o, rdpo, rd1o, fnv, intv, VOp.dst, getRo, solEo, solo, solo1, allsz, List.all_cons, List.all_nil, Bool.and_true, beq_self_eq_true, List.length_cons, List.length_nil, Nat.zero_add, srcv, Nat.le_refl, List.take_succ_cons, List.take_zero, and_self, if_true, Nat.reduceAdd, Nat.reduceLT, eq_self, h0']
      · simp -dsimp only [↓SD, SP, ↓reduceIte, Nat.reduceEqDiff, ini, frz, rdAo, rd3o, rd2o, rdpo, rd1o, fnv, intv, VOp.dst, getRo, solEo, solo, solo1, allsz, List.all_cons, List.all_nil, Bool.and_true, beq_self_eq_true, List.length_cons, List.length_nil, Nat.zero_add, srcv, Nat.le_refl, List.take_succ_cons, List.take_zero, and_self, if_true, Nat.reduceAdd, Nat.reduceLT, eq_self, htk, hk_snoc]
      · simp -dsimp only [↓SD, SP, ↓reduceIte, Nat.reduceEqDiff, ini, frz, rdAo, rd3o, rd2o, rdpo, rd1o, fnv, intv, VOp.dst, getRo, solEo, solo, solo1, allsz, List.all_cons, List.all_nil, Bool.and_true, beq_self_eq_true, List.length_cons, List.length_nil, Nat.zero_add, srcv, Nat.le_refl, List.take_succ_cons, List.take_zero, and_self, if_true, Nat.reduceAdd, Nat.reduceLT, eq_self, Int.natCast_add, Int.natCast_one]
      · rw [htk]
        refine HHeld.snoc (hheld.frame fun r hr q hq => ?_) (hh2.frame fun q hq => hfr3 q fun h => hd9 q hq q h rfl) hh3
        have hmem : q ∈ (rows.take i).flatMap HRow.tg := List.mem_flatMap.2 ⟨r, hr, hq⟩
        rw [hfr3 q fun h => hd3 q hmem q (List.mem_append_left _ (List.mem_append_right _ h)) rfl, hfr2 q fun h => hd3 q hmem q (List.mem_append_left _ (List.mem_append_left _ h)) rfl, hH1q q fun e => hng (e ▸ List.mem_append_left _ hmem)]
      · obtain ⟨t1, t2⟩ := horig r (by rw [hdr]; exact List.mem_cons_of_mem _ hr)
        have fr : ∀ q ∈ r.tg, H3 q = H q := fun q hq => by
          have hmem : q ∈ (rows.drop (i + 1)).flatMap HRow.tg := List.mem_flatMap.2 ⟨r, hr, hq⟩
          rw [hfr3 q fun h => hd6 q (List.mem_append_right _ h) q hmem rfl, hfr2 q fun h => hd6 q (List.mem_append_left _ h) q hmem rfl, hH1q q fun e => hng (e ▸ List.mem_append_right _ (List.mem_append_right _ hmem))]
        exact ⟨t1.frame fun q hq => fr q (List.mem_append_left _ hq), t2.frame fun q hq => fr q (List.mem_append_right _ hq)⟩
    · simp -dsimp only [↓SD, SP, ↓reduceIte, Nat.reduceEqDiff, ini, frz, rdAo, rd3o, rd2o, rdpo, rd1o, fnv, intv, VOp.dst, getRo, solEo, solo, solo1, allsz, List.all_cons, List.all_nil, Bool.and_true, beq_self_eq_true, List.length_cons, List.length_nil, Nat.zero_add, srcv, Nat.le_refl, List.take_succ_cons, List.take_zero, and_self, if_true, Nat.reduceAdd, Nat.reduceLT, eq_self, h0', h5, Int.ofNat_lt, hi]
      obtain rfl : i = n := by omega
      exact hQ _ _ _ _ ⟨rfl, h1, hf, hheld, _, hHg⟩
theorem s_heldHunkS (g n k : Nat) (rows : List HRow) (rest : List AV) (H0 : Hp) (hn : n = rows.length) (hn2 : n ≤ 1000000) (hok : ∀ r ∈ rows, r.ok) (hH : H0 g = some ⟨g, 3, hmk k rows ++ rest, false, false, false⟩) (hh : HHeld H0 k rows) (hfz : NoFz H0) (h0 : 0 < k) (hk1 : k ≤ 1000000000000000000) :
    OKM Go.Proofs.Try.prog 16 [.own g g 3 n, .int .i64 k] H0 (fun _ _ r H' => r = .int .i64 (hk k rows : Nat) ∧ H' = H0) := by
  refine fn_okM k16 rfl ?_
  have hms := held_sl
  generalize OKM Go.Proofs.Try.prog = M at *
  intro lo hlo
  simp -dsimp only [↓SD, SP, ↓reduceIte, Nat.reduceEqDiff, ini, frz, rdAo, rd3o, rd2o, rdpo, rd1o, fnv, intv, VOp.dst, getRo, solEo, solo, solo1, allsz, List.all_cons, List.all_nil, Bool.and_true, beq_self_eq_true, List.length_cons, List.length_nil, Nat.zero_add, srcv, Nat.le_refl, List.take_succ_cons, List.take_zero, and_self, if_true, Nat.reduceAdd, Nat.reduceLT, eq_self, c16]
  refine loop_rule (fun m E H _ => ∃ i : Nat, m + i = n ∧ E 0 = .own g g 3 n ∧ E 1 = .int .i64 (hk k (rows.take i) : Nat) ∧ E 5 = .int .i64 i ∧ H = H0)
    (fun e E H _ => e = .exit 0 ∧ E 1 = .int .i64 (hk k rows : Nat) ∧ H = H0) n ⟨0, rfl, rfl, rfl, rfl, rfl⟩ ?_ ?_
  · rintro e E H n' ⟨rfl, h1, rfl⟩
    simp -dsimp only [↓SD, SP, ↓reduceIte, Nat.reduceEqDiff, ini, frz, rdAo, rd3o, rd2o, rdpo, rd1o, fnv, intv, VOp.dst, getRo, solEo, solo, solo1, allsz, List.all_cons, List.all_nil, Bool.and_true, beq_self_eq_true, List.length_cons, List.length_nil, Nat.zero_add, srcv, Nat.le_refl, List.take_succ_cons, List.take_zero, and_self, if_true, Nat.reduceAdd, Nat.reduceLT, eq_self, h1, noTup]
  · rintro m E H n' Q K ⟨i, hm, h0', h1, h5, rfl⟩ hQ hK
    by_cases hi : i < n
    · have hir : i < rows.length := by omega
      obtain ⟨o1, o2, n1, n2⟩ := hok rows[i] (List.getElem_mem hir)
      obtain ⟨kb1, kb2⟩ := hk_le k (rows.take i) fun r hr => hok r (List.mem_of_mem_take hr)
      have hti : (rows.take i).length = i := by simp; omega
      rw [hti] at kb2
      have htk : rows.take (i + 1) = rows.take i ++ [rows[i]] := List.take_succ_eq_append_getElem hir
      have hdr : rows.drop i = rows[i] :: rows.drop (i + 1) := List.drop_eq_getElem_cons hir
      have hsplit : rows = rows.take i ++ rows[i] :: rows.drop (i + 1) := by rw [← hdr, List.take_append_drop]
      obtain ⟨s1, s2⟩ : SHeld H (hk k (rows.take i) + 1) rows[i].l1 ∧ SHeld H (hk k (rows.take i) + 1 + lenV rows[i].l1) rows[i].l2 := by
        refine HHeld.get (rest := rows.drop (i + 1)) ?_
        rw [← hsplit]
        exact hh
      have hmk' : ∀ (k : Nat) (rs rest : List HRow) (r : HRow), (hmk k (rs ++ r :: rest))[rs.length]? = some (.agg [.int .i64 (hk k rs : Nat), ow r.l1, ow r.l2]) := by
        intro k rs
        induction rs generalizing k with
        | nil => intro rest r; rfl
        | cons q rs ih => intro rest r; exact ih _ rest r
      have hget : (hmk k rows ++ rest)[i]? = some (.agg [.int .i64 (hk k (rows.take i) : Nat), ow rows[i].l1, ow rows[i].l2]) := by
        rw [List.getElem?_append_left (by rw [hmk_len]; exact hir)]
        have := hmk' k (rows.take i) (rows.drop (i + 1)) rows[i]
        rw [← hsplit, hti] at this
        exact this
      have hl1 : (ow rows[i].l1).isAgg = false := o1.fld.1
      have hl2 : (ow rows[i].l2).isAgg = false := o2.fld.1
      have ld0 := ld_fld (j := 0) hH hget rfl (ia_int _ _)
      have ld1 := ld_fld (j := 1) hH hget rfl hl1
      have ld2 := ld_fld (j := 2) hH hget rfl hl2
      simp -dsimp only [↓SD, SP, ↓reduceIte, Nat.reduceEqDiff, ini, frz, rdAo, rd3o, rd2o, rdpo, rd1o, fnv, intv, VOp.dst, getRo, solEo, solo, solo1, allsz, List.all_cons, List.all_nil, Bool.and_true, beq_self_eq_true, List.length_cons, List.length_nil, Nat.zero_add, srcv, Nat.le_refl, List.take_succ_cons, List.take_zero, and_self, if_true, Nat.reduceAdd, Nat.reduceLT, eq_self, h0', h1, h5, Int.ofNat_lt, hi, x_own g g 3 n i hi, f_optr, ld0, ld1, wrap64 ((hk k (rows.take i) : Int) + 1) (by omega)]
      refine callm_all (hms rows[i].l1 o1 H (hk k (rows.take i) + 1) s1 (by omega) (by omega)) hfz ?_
      rintro lo2 hi2 r H2 - - ⟨rfl, rfl⟩
      simp -dsimp only [↓SD, SP, ↓reduceIte, Nat.reduceEqDiff, ini, frz, rdAo, rd3o, rd2o, rdpo, rd1o, fnv, intv, VOp.dst, getRo, solEo, solo, solo1, allsz, List.all_cons, List.all_nil, Bool.and_true, beq_self_eq_true, List.length_cons, List.length_nil, Nat.zero_add, srcv, Nat.le_refl, List.take_succ_cons, List.take_zero, and_self, if_true, Nat.reduceAdd, Nat.reduceLT, eq_self, h0', h5, x_own g g 3 n i hi, f_optr, ld2, show ¬ ((hk k (rows.take i) + 1 + lenV rows[i].l1 : Nat) : Int) < 0 by omega]
      refine callm_all (hms rows[i].l2 o2 _ (hk k (rows.take i) + 1 + lenV rows[i].l1) s2 (by omega) (by omega)) hfz ?_
      rintro lo3 hi3 r H3 - - ⟨rfl, rfl⟩
      simp -dsimp only [↓SD, SP, ↓reduceIte, Nat.reduceEqDiff, ini, frz, rdAo, rd3o, rd2o, rdpo, rd1o, fnv, intv, VOp.dst, getRo, solEo, solo, solo1, allsz, List.all_cons, List.all_nil, Bool.and_true, beq_self_eq_true, List.length_cons, List.length_nil, Nat.zero_add, srcv, Nat.le_refl, List.take_succ_cons, List.take_zero, and_self, if_true, Nat.reduceAdd, Nat.reduceLT, eq_self, h5, show ¬ ((hk k (rows.take i) + 1 + lenV rows[i].l1 + lenV rows[i].l2 : Nat) : Int) < 0 by omega, wrap64 ((i : Int) + 1) (by omega)]
      refine hK (m - 1) _ _ _ (by omega) ⟨i + 1, by omega, ?_, ?_, ?_, rfl⟩
      · simp -dsimp only [↓SD, SP, ↓reduceIte, Nat.reduceEqDiff, ini, frz, rdAo, rd3o, rd2o, rdpo, rd1o, fnv, intv, VOp.dst, getRo, solEo, solo, solo1, allsz, List.all_cons, List.all_nil, Bool.and_true, beq_self_eq_true, List.length_cons, List.length_nil, Nat.zero_add, srcv, Nat.le_refl, List.take_succ_cons, List.take_zero, and_self, if_true, Nat.reduceAdd, Nat.reduceLT, eq_self, h0']
      · simp -dsimp only [↓SD, SP, ↓reduceIte, Nat.reduceEqDiff, ini, frz, rdAo, rd3o, rd2o, rdpo, rd1o, fnv, intv, VOp.dst, getRo, solEo, solo, solo1, allsz, List.all_cons, List.all_nil, Bool.and_true, beq_self_eq_true, List.length_cons, List.length_nil, Nat.zero_add, srcv, Nat.le_refl, List.take_succ_cons, List.take_zero, and_self, if_true, Nat.reduceAdd, Nat.reduceLT, eq_self, htk, hk_snoc]
      · simp -dsimp only [↓SD, SP, ↓reduceIte, Nat.reduceEqDiff, ini, frz, rdAo, rd3o, rd2o, rdpo, rd1o, fnv, intv, VOp.dst, getRo, solEo, solo, solo1, allsz, List.all_cons, List.all_nil, Bool.and_true, beq_self_eq_true, List.length_cons, List.length_nil, Nat.zero_add, srcv, Nat.le_refl, List.take_succ_cons, List.take_zero, and_self, if_true, Nat.reduceAdd, Nat.reduceLT, eq_self, Int.natCast_add, Int.natCast_one]
    · simp -dsimp only [↓SD, SP, ↓reduceIte, Nat.reduceEqDiff, ini, frz, rdAo, rd3o, rd2o, rdpo, rd1o, fnv, intv, VOp.dst, getRo, solEo, solo, solo1, allsz, List.all_cons, List.all_nil, Bool.and_true, beq_self_eq_true, List.length_cons, List.length_nil, Nat.zero_add, srcv, Nat.le_refl, List.take_succ_cons, List.take_zero, and_self, if_true, Nat.reduceAdd, Nat.reduceLT, eq_self, h0', h5, Int.ofNat_lt, hi]
      rw [List.take_of_length_le (by omega)] at h1
      exact hQ _ _ _ _ ⟨rfl, h1, rfl⟩
theorem s_markHunkS0 (k : Nat) (H0 : Hp) : OKM Go.Proofs.Try.prog 15 [.emp, .int .i64 k] H0 (fun _ _ r H' => r = .int .i64 k ∧ H' = H0) := by
  refine fn_okM k15 rfl ?_
  generalize OK Go.Proofs.Try.prog = L at *
  intro lo hlo
  simp -dsimp only [↓SD, SP, ↓reduceIte, Nat.reduceEqDiff, ini, frz, rdAo, rd3o, rd2o, rdpo, rd1o, fnv, intv, VOp.dst, getRo, solEo, solo, solo1, allsz, List.all_cons, List.all_nil, Bool.and_true, beq_self_eq_true, List.length_cons, List.length_nil, Nat.zero_add, srcv, Nat.le_refl, List.take_succ_cons, List.take_zero, and_self, if_true, Nat.reduceAdd, Nat.reduceLT, eq_self, c15]
  refine loop_rule (fun m E H _ => E 0 = .emp ∧ E 1 = .int .i64 k ∧ E 5 = .int .i64 0 ∧ H = H0) (fun e E H _ => e = .exit 0 ∧ E 1 = .int .i64 k ∧ H = H0) 0 ⟨rfl, rfl, rfl, rfl⟩ ?_ ?_
  · rintro e E H n' ⟨rfl, h1, rfl⟩
    simp -dsimp only [↓SD, SP, ↓reduceIte, Nat.reduceEqDiff, ini, frz, rdAo, rd3o, rd2o, rdpo, rd1o, fnv, intv, VOp.dst, getRo, solEo, solo, solo1, allsz, List.all_cons, List.all_nil, Bool.and_true, beq_self_eq_true, List.length_cons, List.length_nil, Nat.zero_add, srcv, Nat.le_refl, List.take_succ_cons, List.take_zero, and_self, if_true, Nat.reduceAdd, Nat.reduceLT, eq_self, h1, noTup]
  · rintro m E H n' Q K ⟨h0', h1, h5, rfl⟩ hQ hK
    simp -dsimp only [↓SD, SP, ↓reduceIte, Nat.reduceEqDiff, ini, frz, rdAo, rd3o, rd2o, rdpo, rd1o, fnv, intv, VOp.dst, getRo, solEo, solo, solo1, allsz, List.all_cons, List.all_nil, Bool.and_true, beq_self_eq_true, List.length_cons, List.length_nil, Nat.zero_add, srcv, Nat.le_refl, List.take_succ_cons, List.take_zero, and_self, if_true, Nat.reduceAdd, Nat.reduceLT, eq_self, h0', h1, h5, Int.natCast_zero, Int.lt_irrefl]
    exact hQ _ _ _ _ ⟨rfl, h1, rfl⟩
theorem s_heldHunkS0 (k : Nat) (H0 : Hp) : OKM Go.Proofs.Try.prog 16 [.emp, .int .i64 k] H0 (fun _ _ r H' => r = .int .i64 k ∧ H' = H0) := by
  refine fn_okM k16 rfl ?_
  generalize OK Go.Proofs.Try.prog = L at *
  intro lo hlo
  simp -dsimp only [↓SD, SP, ↓reduceIte, Nat.reduceEqDiff, ini, frz, rdAo, rd3o, rd2o, rdpo, rd1o, fnv, intv, VOp.dst, getRo, solEo, solo, solo1, allsz, List.all_cons, List.all_nil, Bool.and_true, beq_self_eq_true, List.length_cons, List.length_nil, Nat.zero_add, srcv, Nat.le_refl, List.take_succ_cons, List.take_zero, and_self, if_true, Nat.reduceAdd, Nat.reduceLT, eq_self, c16]
  refine loop_rule (fun m E H _ => E 0 = .emp ∧ E 1 = .int .i64 k ∧ E 5 = .int .i64 0 ∧ H = H0) (fun e E H _ => e = .exit 0 ∧ E 1 = .int .i64 k ∧ H = H0) 0 ⟨rfl, rfl, rfl, rfl⟩ ?_ ?_
  · rintro e E H n' ⟨rfl, h1, rfl⟩
    simp -dsimp only [↓SD, SP, ↓reduceIte, Nat.reduceEqDiff, ini, frz, rdAo, rd3o, rd2o, rdpo, rd1o, fnv, intv, VOp.dst, getRo, solEo, solo, solo1, allsz, List.all_cons, List.all_nil, Bool.and_true, beq_self_eq_true, List.length_cons, List.length_nil, Nat.zero_add, srcv, Nat.le_refl, List.take_succ_cons, List.take_zero, and_self, if_true, Nat.reduceAdd, Nat.reduceLT, eq_self, h1, noTup]
  · rintro m E H n' Q K ⟨h0', h1, h5, rfl⟩ hQ hK
    simp -dsimp only [↓SD, SP, ↓reduceIte, Nat.reduceEqDiff, ini, frz, rdAo, rd3o, rd2o, rdpo, rd1o, fnv, intv, VOp.dst, getRo, solEo, solo, solo1, allsz, List.all_cons, List.all_nil, Bool.and_true, beq_self_eq_true, List.length_cons, List.length_nil, Nat.zero_add, srcv, Nat.le_refl, List.take_succ_cons, List.take_zero, and_self, if_true, Nat.reduceAdd, Nat.reduceLT, eq_self, h0', h1, h5, Int.natCast_zero, Int.lt_irrefl]
    exact hQ _ _ _ _ ⟨rfl, h1, rfl⟩

/-- a list of hunks, whole: none, or one whose rows have blocks of their own -/
def HSl (r : AV) : Prop := r = .emp ∨ ∃ (g n : Nat) (rows : List HRow), r = .lsl (some (g, 3)) n (rows.map HRow.v) ∧ n ≤ rows.length ∧ n ≤ 1000000 ∧ (∀ r ∈ rows, r.ok) ∧ (g :: rows.flatMap HRow.tg).Nodup
theorem HRow.ow (r : HRow) : ow r.v = r.o := rfl
theorem tags_rows (rows : List HRow) : tagsL (rows.map HRow.v) = rows.flatMap HRow.tg := by
  induction rows with
  | nil => rfl
  | cons r rs ih => simp [tagsL, ih, HRow.v, HRow.tg, tags]
theorem tok_rows (rows : List HRow) (h : ∀ r ∈ rows, r.ok) : tokL (rows.map HRow.v) = true := (tokL_iff _).2 fun x hx => by
  obtain ⟨r, hr, rfl⟩ := List.mem_map.1 hx
  obtain ⟨h1, h2, _⟩ := h r hr
  simp [HRow.v, tok, tokL, h1.tok, h2.tok]
theorem HSl.tok {r : AV} (h : HSl r) : tok r = true := by
  rcases h with rfl | ⟨g, n, rows, rfl, _, _, hok, _⟩
  · rfl
  · simp only [Go.AVM.tok, tok_rows rows hok]
    rfl
theorem mem_blL {xs : List AV} {x : AV} {p : Nat × Blk} (hx : x ∈ xs) (hp : p ∈ bl x) : p ∈ blL xs := by
  induction xs with
  | nil => cases hx
  | cons y ys ih =>
    simp only [blL]
    rcases List.mem_cons.1 hx with rfl | hx
    · exact List.mem_append_left _ hp
    · exact List.mem_append_right _ (ih hx)
theorem sorig_of {H : Hp} {l : AV} (hl : SlOk l) (h : ∀ p ∈ bl l, H p.1 = some p.2) : SOrig H l := by
  rcases hl with rfl | ⟨b, m, xs, rfl, _⟩
  · trivial
  · have := h (b, ⟨b, 1, owL (xs.map .str), false, false, false⟩) (by simp [bl])
    rw [ow_strs] at this
    exact this
theorem HSl.tree {g n : Nat} {rows : List HRow} (hok : ∀ r ∈ rows, r.ok) (hnd : (g :: rows.flatMap HRow.tg).Nodup) : treeH (.lsl (some (g, 3)) n (rows.map HRow.v)) g = some ⟨g, 3, rows.map HRow.o, false, false, false⟩ ∧
    ∀ r ∈ rows, SOrig (treeH (.lsl (some (g, 3)) n (rows.map HRow.v))) r.l1 ∧ SOrig (treeH (.lsl (some (g, 3)) n (rows.map HRow.v))) r.l2 := by
  have hh := treeH_holds (x := .lsl (some (g, 3)) n (rows.map HRow.v)) (by simp only [Go.AVM.tok, tok_rows rows hok]; rfl) (by simp only [tags, tags_rows]; exact hnd)
  have how : owL (rows.map HRow.v) = rows.map HRow.o := by rw [owL_map, List.map_map]; rfl
  refine ⟨?_, fun r hr => ?_⟩
  · have := hh (g, ⟨g, 3, owL (rows.map HRow.v), false, false, false⟩) (by simp [bl])
    rw [how] at this
    exact this
  · obtain ⟨h1, h2, _⟩ := hok r hr
    have hm : ∀ p ∈ bl r.v, treeH (.lsl (some (g, 3)) n (rows.map HRow.v)) p.1 = some p.2 := fun p hp => hh p (by
      simp only [bl]
      exact List.mem_cons_of_mem _ (mem_blL (List.mem_map.2 ⟨r, hr, rfl⟩) hp))
    exact ⟨sorig_of h1 fun p hp => hm p (by simp [HRow.v, bl, blL, hp]), sorig_of h2 fun p hp => hm p (by simp [HRow.v, bl, blL, hp])⟩
theorem HSl.markA {r : AV} (h : HSl r) : MarkA Go.Proofs.Try.prog 15 r 1000000000000000 := by
  intro k h0 hk1
  rcases h with rfl | ⟨g, n, rows, rfl, hn, hn2, hok, hnd⟩
  · exact (s_markHunkS0 k _).weak fun _ _ r' H' ⟨h, _⟩ => ⟨k, h, Nat.le_refl _, by omega⟩
  · obtain ⟨t1, t2⟩ := HSl.tree (n := n) hok hnd
    obtain ⟨b1, b2⟩ := hk_le k (rows.take n) fun r hr => hok r (List.mem_of_mem_take hr)
    have hl : (rows.take n).length = n := by simp; omega
    rw [hl] at b2
    exact (s_markHunkS g n k rows _ hn hn2 hok hnd t1 t2 treeH_fz h0 hk1).weak fun _ _ r' H' ⟨h, _⟩ => ⟨_, h, b1, by omega⟩
theorem HSl.markR {r : AV} (h : HSl r) : MarkR Go.Proofs.Try.prog 15 16 r := by
  intro k h0 hk1
  rcases h with rfl | ⟨g, n, rows, rfl, hn, hn2, hok, hnd⟩
  · exact ⟨k, Nat.le_refl _, by omega, (s_markHunkS0 k _).weak fun _ _ r' H' ⟨h, hH⟩ => ⟨h, by rw [hH]; exact treeH_fz, s_heldHunkS0 k H'⟩⟩
  · obtain ⟨t1, t2⟩ := HSl.tree (n := n) hok hnd
    have hok' : ∀ r ∈ rows.take n, r.ok := fun r hr => hok r (List.mem_of_mem_take hr)
    obtain ⟨b1, b2⟩ := hk_le k (rows.take n) hok'
    have hl : (rows.take n).length = n := by simp; omega
    rw [hl] at b2
    exact ⟨hk k (rows.take n), b1, by omega, (s_markHunkS g n k rows _ hn hn2 hok hnd t1 t2 treeH_fz h0 (by omega)).weak fun _ _ r' H' ⟨h1, h2, h3, rest, h4⟩ => ⟨h1, h2, s_heldHunkS g n k (rows.take n) rest H' hl.symm hn2 hok' h4 h3 h2 h0 (by omega)⟩⟩
end Go.AVM

/- Lists of hunks that are made: clones, rows. -/
set_option linter.unusedSimpArgs false
set_option linter.unusedVariables false
namespace Go.AVM
/-- a new list of strings, or none -/
def RStr (lo hi : Nat) (xs : List ByteArray) (r : AV) : Prop := (xs = [] ∧ r = .emp) ∨ ∃ g, lo ≤ g ∧ g < hi ∧ r = .lsl (some (g, 1)) xs.length (xs.map .str)
theorem RStr.sl {lo hi : Nat} {xs : List ByteArray} {r : AV} (h : RStr lo hi xs r) : SlOk r := by
  rcases h with ⟨_, rfl⟩ | ⟨g, _, _, rfl⟩
  · exact .inl rfl
  · exact .inr ⟨g, xs.length, xs, rfl, Nat.le_refl _⟩
theorem RStr.wk {lo hi : Nat} {xs : List ByteArray} {r : AV} (h : RStr lo hi xs r) : Wk r (strs xs) := by
  rcases h with ⟨rfl, rfl⟩ | ⟨g, _, _, rfl⟩
  · exact .emp
  · exact Wk.strip _ _ _ (by simp)
theorem RStr.len {lo hi : Nat} {xs : List ByteArray} {r : AV} (h : RStr lo hi xs r) : lenV r = xs.length := by
  rcases h with ⟨rfl, rfl⟩ | ⟨g, _, _, rfl⟩ <;> rfl
theorem RStr.tin {lo hi : Nat} {xs : List ByteArray} {r : AV} (h : RStr lo hi xs r) : Tin lo hi (tags r) := by
  rcases h with ⟨rfl, rfl⟩ | ⟨g, h1, h2, rfl⟩
  · exact .nil
  · simp only [tags, tagsL_strs]
    exact Tin.nil.cons (by simp) h1 h2
theorem RStr.fld {lo hi : Nat} {xs : List ByteArray} {r : AV} (h : RStr lo hi xs r) : r.isAgg = false ∧ r.sz = 1 := by
  rcases h with ⟨rfl, rfl⟩ | ⟨g, h1, h2, rfl⟩ <;> exact ⟨rfl, rfl⟩
theorem RStr.mono {lo hi lo' hi' : Nat} {xs : List ByteArray} {r : AV} (h : RStr lo hi xs r) (h1 : lo' ≤ lo) (h2 : hi ≤ hi') : RStr lo' hi' xs r :=
  h.imp id fun ⟨g, a, b, c⟩ => ⟨g, by omega, by omega, c⟩
theorem bnil_strs {xs : List ByteArray} {ne : Bool} {K : AV → Prop} (h1 : xs = [] → K (.bool true)) (h2 : K (.bool false)) (hn : ne = false) : bnil (strs xs) ne K := by
  subst hn
  cases xs with
  | nil =>
    intro b
    cases b
    · exact h2
    · exact h1 rfl
  | cons x xs => exact h2
theorem s_clone (xs : List ByteArray) (hx : xs.length ≤ 1000000) : OK Go.Proofs.Try.prog 36 [strs xs] (fun lo hi r => RStr lo hi xs r) := by
  refine fn_ok k36 rfl ?_
  generalize OK Go.Proofs.Try.prog = L at *
  intro lo
  simp -dsimp only [↓SD, SP, ↓reduceIte, Nat.reduceEqDiff, ini, frz, rdAo, rd3o, rd2o, rdpo, rd1o, fnv, intv, VOp.dst, getRo, solEo, solo, solo1, allsz, List.all_cons, List.all_nil, Bool.and_true, beq_self_eq_true, List.length_cons, List.length_nil, Nat.zero_add, srcv, Nat.le_refl, List.take_succ_cons, List.take_zero, and_self, if_true, Nat.reduceAdd, Nat.reduceLT, eq_self, c36]
  refine bnil_strs (fun e => ?_) ?_ rfl
  · simp -dsimp only [↓SD, SP, ↓reduceIte, Nat.reduceEqDiff, ini, frz, rdAo, rd3o, rd2o, rdpo, rd1o, fnv, intv, VOp.dst, getRo, solEo, solo, solo1, allsz, List.all_cons, List.all_nil, Bool.and_true, beq_self_eq_true, List.length_cons, List.length_nil, Nat.zero_add, srcv, Nat.le_refl, List.take_succ_cons, List.take_zero, and_self, if_true, Nat.reduceAdd, Nat.reduceLT, eq_self]
    exact .inl ⟨e, rfl⟩
  · simp -dsimp only [↓SD, SP, ↓reduceIte, Nat.reduceEqDiff, ini, frz, rdAo, rd3o, rd2o, rdpo, rd1o, fnv, intv, VOp.dst, getRo, solEo, solo, solo1, allsz, List.all_cons, List.all_nil, Bool.and_true, beq_self_eq_true, List.length_cons, List.length_nil, Nat.zero_add, srcv, Nat.le_refl, List.take_succ_cons, List.take_zero, and_self, if_true, Nat.reduceAdd, Nat.reduceLT, eq_self]
    refine bal_mk fun g hg => ?_
    have hz : (xs.map AV.str).all (fun x => x.sz == 1) = true := by simp [AV.sz]
    simp -dsimp only [↓SD, SP, ↓reduceIte, Nat.reduceEqDiff, ini, frz, rdAo, rd3o, rd2o, rdpo, rd1o, fnv, intv, VOp.dst, getRo, solEo, solo, solo1, allsz, List.all_cons, List.all_nil, Bool.and_true, beq_self_eq_true, List.length_cons, List.length_nil, Nat.zero_add, srcv, Nat.le_refl, List.take_succ_cons, List.take_zero, and_self, if_true, Nat.reduceAdd, Nat.reduceLT, eq_self, hz]
    refine app_own (row := true) (ex := true) (xs := []) ?_ (by simp) (by simp) (by simp; omega) (by simp; omega) fun b' n' g1 g2 => ?_
    · simp -dsimp only [↓SD, SP, ↓reduceIte, Nat.reduceEqDiff, ini, frz, rdAo, rd3o, rd2o, rdpo, rd1o, fnv, intv, VOp.dst, getRo, solEo, solo, solo1, allsz, List.all_cons, List.all_nil, Bool.and_true, beq_self_eq_true, List.length_cons, List.length_nil, Nat.zero_add, srcv, Nat.le_refl, List.take_succ_cons, List.take_zero, and_self, if_true, Nat.reduceAdd, Nat.reduceLT, eq_self]
    simp -dsimp only [↓SD, SP, ↓reduceIte, Nat.reduceEqDiff, ini, frz, rdAo, rd3o, rd2o, rdpo, rd1o, fnv, intv, VOp.dst, getRo, solEo, solo, solo1, allsz, List.all_cons, List.all_nil, Bool.and_true, beq_self_eq_true, List.length_cons, List.length_nil, Nat.zero_add, srcv, Nat.le_refl, List.take_succ_cons, List.take_zero, and_self, if_true, Nat.reduceAdd, Nat.reduceLT, eq_self, List.length_map]
    exact .inr ⟨b', by omega, by omega, rfl⟩
/-! ### rows of hunks -/
def HIs (h : HunkL) (r : HRow) : Prop := r.a = h.at_ ∧ Wk r.l1 (strs h.less) ∧ Wk r.l2 (strs h.more) ∧ SlOk r.l1 ∧ SlOk r.l2 ∧ lenV r.l1 = h.less.length ∧ lenV r.l2 = h.more.length
def HIsL (hs : List HunkL) (rs : List HRow) : Prop := hs.length = rs.length ∧ ∀ (i : Nat) (h : HunkL) (r : HRow), hs[i]? = some h → rs[i]? = some r → HIs h r
theorem HIsL.nil : HIsL [] [] := ⟨rfl, fun i h r e => by simp at e⟩
theorem HIsL.snoc {hs : List HunkL} {rs : List HRow} {h : HunkL} {r : HRow} (hh : HIsL hs rs) (hr : HIs h r) : HIsL (hs ++ [h]) (rs ++ [r]) := by
  refine ⟨by simp [hh.1], fun i h' r' e1 e2 => ?_⟩
  by_cases hi : i < hs.length
  · rw [List.getElem?_append_left hi] at e1
    rw [List.getElem?_append_left (by rw [← hh.1]; exact hi)] at e2
    exact hh.2 i h' r' e1 e2
  · rw [List.getElem?_append_right (by omega)] at e1
    rw [List.getElem?_append_right (by rw [← hh.1]; omega), ← hh.1] at e2
    cases hk : i - hs.length with
    | zero =>
      rw [hk] at e1 e2
      obtain rfl : h = h' := by simpa using e1
      obtain rfl : r = r' := by simpa using e2
      exact hr
    | succ k => rw [hk] at e1; simp at e1
theorem HIs.wk {h : HunkL} {r : HRow} (hh : HIs h r) : Wk r.v (hunkV h) := by
  obtain ⟨h1, h2, h3, _⟩ := hh
  unfold HRow.v hunkV
  rw [h1]
  exact wk_l3 (.refl _) h2 h3
/-- a new list of hunks, or none -/
def RHs (lo hi : Nat) (hs : List HunkL) (r : AV) : Prop := (hs = [] ∧ r = .emp) ∨ ∃ g rows, r = .lsl (some (g, 3)) hs.length (rows.map HRow.v) ∧ HIsL hs rows ∧ Tin lo hi (g :: rows.flatMap HRow.tg)
theorem RHs.mono {lo hi lo' hi' : Nat} {hs : List HunkL} {r : AV} (h : RHs lo hi hs r) (h1 : lo' ≤ lo) (h2 : hi ≤ hi') : RHs lo' hi' hs r :=
  h.imp id fun ⟨g, rows, a, b, c⟩ => ⟨g, rows, a, b, c.mono h1 h2⟩
theorem RHs.hsl {lo hi : Nat} {hs : List HunkL} {r : AV} (h : RHs lo hi hs r) (hl : hs.length ≤ 1000000) (hb : ∀ h ∈ hs, h.less.length ≤ 1000000 ∧ h.more.length ≤ 1000000) : HSl r := by
  rcases h with ⟨_, rfl⟩ | ⟨g, rows, rfl, ⟨h1, h2⟩, h3⟩
  · exact .inl rfl
  · refine .inr ⟨g, hs.length, rows, rfl, by omega, hl, fun r hr => ?_, h3.1⟩
    obtain ⟨i, hi, rfl⟩ := List.getElem_of_mem hr
    have hi' : i < hs.length := by omega
    obtain ⟨_, _, _, a, b, c, d⟩ := h2 i _ _ (List.getElem?_eq_getElem hi') (List.getElem?_eq_getElem hi)
    have := hb _ (List.getElem_mem hi')
    exact ⟨a, b, by omega, by omega⟩
theorem RHs.wk {lo hi : Nat} {hs : List HunkL} {r : AV} (h : RHs lo hi hs r) : Wk r (hunksV hs) := by
  rcases h with ⟨rfl, rfl⟩ | ⟨g, rows, rfl, ⟨h1, h2⟩, _⟩
  · exact .emp
  · refine .lsl _ _ _ _ (by simp) (by simp; omega) fun i x y hx hy => ?_
    rw [List.getElem?_map] at hx hy
    obtain ⟨h, hh, rfl⟩ := Option.map_eq_some_iff.1 hy
    obtain ⟨q, hq, rfl⟩ := Option.map_eq_some_iff.1 hx
    exact (h2 i h q hh hq).wk
theorem RHs.new {lo hi : Nat} {hs : List HunkL} {r : AV} (h : RHs lo hi hs r) (hl : hs.length ≤ 1000000) (hb : ∀ h ∈ hs, h.less.length ≤ 1000000 ∧ h.more.length ≤ 1000000) : New (hunksV hs) lo hi r := by
  refine ⟨h.wk, (h.hsl hl hb).tok, ?_⟩
  rcases h with ⟨_, rfl⟩ | ⟨g, rows, rfl, _, h3⟩
  · exact .nil
  · simp only [tags, tags_rows]
    exact h3
theorem RHs.res {lo hi : Nat} {hs : List HunkL} {r : AV} (h : RHs lo hi hs r) (hl : hs.length ≤ 1000000) (hb : ∀ h ∈ hs, h.less.length ≤ 1000000 ∧ h.more.length ≤ 1000000) : ResR Go.Proofs.Try.prog 15 16 (hunksV hs) lo hi r :=
  ⟨h.new hl hb, (h.hsl hl hb).markR⟩
/-- a row more, behind the others -/
theorem tin_row {lo n n1 n' a b g b' : Nat} {l t : List Nat} (h : Tin lo n (g :: l)) (ht : Tin a b t) (h1 : n ≤ a) (h2 : b ≤ n1) (h3 : n1 ≤ n') (h4 : b' = g ∨ n1 ≤ b' ∧ b' < n') (h5 : n ≤ n1) : Tin lo n' (b' :: (l ++ t)) := by
  obtain ⟨h6, h7⟩ := h
  obtain ⟨h8, h9⟩ := List.nodup_cons.1 h6
  have hg := h7 g List.mem_cons_self
  have hl : ∀ b ∈ l, lo ≤ b ∧ b < n := fun b hb => h7 b (List.mem_cons_of_mem _ hb)
  have htt := ht.2
  refine ⟨List.nodup_cons.2 ⟨fun hm => ?_, List.nodup_append.2 ⟨h9, ht.1, fun x hx y hy e => ?_⟩⟩, fun x hx => ?_⟩
  · rcases List.mem_append.1 hm with hm | hm
    · rcases h4 with rfl | h4
      · exact h8 hm
      · have := hl _ hm; omega
    · have := htt _ hm; omega
  · subst e
    have := hl _ hx
    have := htt _ hy
    omega
  · rcases List.mem_cons.1 hx with rfl | hx
    · omega
    · rcases List.mem_append.1 hx with hx | hx
      · have := hl _ hx; omega
      · have := htt _ hx; omega
theorem tg_snoc (rows : List HRow) (r : HRow) : (rows ++ [r]).flatMap HRow.tg = rows.flatMap HRow.tg ++ (tags r.l1 ++ tags r.l2) := by simp [HRow.tg]
/-! ### what is put behind an empty literal, in whatever order -/
def UV (H : Hp) (n d : Nat) (xs : List ByteArray) (v : AV) (H' : Hp) : Prop := (xs = [] ∧ v = .emp ∧ H' = H) ∨ ∃ b, n ≤ b ∧ (∀ q k, H q = some k → k.b ≠ b) ∧ v = .own d b 1 xs.length ∧ H' = updH H d (some ⟨b, 1, xs.map .str, false, true, false⟩)
theorem ucl_strs {d n : Nat} {E : Env} {H : Hp} {K : Env → Hp → Nat → Prop} {xs : List ByteArray} {y : AV} (hd : H d = none) (hy : srcF y = some (xs.map .str)) (hl : xs.length ≤ 1000000) (hk : ∀ v H', UV H n d xs v H' → K (upd E d v) H' n) : bucl d 1 16 n y E H K := by
  refine ⟨hd, _, hy, ?_, by simp; omega, by simp; omega, fun e => ?_, fun e b hb hq => ?_⟩
  · intro z hz
    obtain ⟨s, _, rfl⟩ := List.mem_map.1 hz
    rfl
  · exact hk _ _ (.inl ⟨by simpa using e, rfl, rfl⟩)
  · have := hk _ _ (.inr ⟨b, hb, hq, rfl, rfl⟩)
    rwa [List.length_map]
theorem UV.fld {H H' : Hp} {n d : Nat} {xs : List ByteArray} {v : AV} (h : UV H n d xs v H') : v.isAgg = false ∧ v.sz = 1 := by
  rcases h with ⟨_, rfl, _⟩ | ⟨b, _, _, rfl, _⟩ <;> exact ⟨rfl, rfl⟩
theorem UV.other {H H' : Hp} {n d q : Nat} {xs : List ByteArray} {v : AV} (h : UV H n d xs v H') (hq : q ≠ d) : H' q = H q := by
  rcases h with ⟨_, _, rfl⟩ | ⟨b, _, _, _, rfl⟩
  · rfl
  · exact if_neg hq
theorem UV.sol {H H' : Hp} {n d : Nat} {xs : List ByteArray} {v : AV} (h : UV H n d xs v H') (H2 : Hp) (he : H2 d = H' d) (hd : H d = none) : ∃ l, solo1 H2 v = some (l, updH H2 d none) ∧ SlOk l ∧ Wk l (strs xs) ∧ lenV l = xs.length ∧ (tags l).Nodup ∧
    ∀ b ∈ tags l, n ≤ b ∧ (∃ k, H' d = some k ∧ k.b = b) ∧ ∀ q k, H q = some k → k.b ≠ b := by
  rcases h with ⟨rfl, rfl, rfl⟩ | ⟨b, hb, hq, rfl, rfl⟩
  · refine ⟨.emp, ?_, .inl rfl, .emp, rfl, List.nodup_nil, by simp [tags]⟩
    have : updH H2 d none = H2 := by
      funext q
      rw [updH_at]
      split
      · rename_i e; rw [e, he, hd]
      · rfl
    rw [this]
    rfl
  · rw [updH_at, if_pos rfl] at he
    refine ⟨.lsl (some (b, 1)) xs.length (xs.map .str), ?_, .inr ⟨b, xs.length, xs, rfl, Nat.le_refl _⟩, Wk.strip _ _ _ (by simp), rfl, ?_, ?_⟩
    · simp [solo1, he]
    · simp [tags, tagsL_strs]
    · intro b' hb'
      obtain rfl : b' = b := by simpa [tags, tagsL_strs] using hb'
      exact ⟨hb, ⟨_, if_pos rfl, rfl⟩, hq⟩
theorem uv2 {H H1 H2 : Hp} {n d1 d2 : Nat} {xs ys : List ByteArray} {v1 v2 : AV} (h1 : UV H n d1 xs v1 H1) (h2 : UV H1 n d2 ys v2 H2) (hd : d1 ≠ d2) (e1 : H d1 = none) (e2 : H d2 = none) (a : Int) : ∃ r : HRow, r.a = a ∧ solo H2 (.agg [.int .i64 a, v1, v2]) = some (r.v, H) ∧ HIs ⟨a, xs, ys⟩ r ∧
    ∀ n', (∀ q k, H2 q = some k → k.b < n') → Tin n n' (tags r.l1 ++ tags r.l2) := by
  have f1 : H1 d2 = none := by rw [h1.other (Ne.symm hd)]; exact e2
  have o1 : H2 d1 = H1 d1 := h2.other hd
  obtain ⟨l1, s1, a1, b1, c1, nd1, t1⟩ := h1.sol H2 o1 e1
  obtain ⟨l2, s2, a2, b2, c2, nd2, t2⟩ := h2.sol (updH H2 d1 none) (by rw [updH_at, if_neg (Ne.symm hd)]) f1
  have hH : updH (updH H2 d1 none) d2 none = H := by
    funext q
    rw [updH_at, updH_at]
    by_cases q2 : q = d2
    · rw [if_pos q2, q2, e2]
    · rw [if_neg q2]
      by_cases q1 : q = d1
      · rw [if_pos q1, q1, e1]
      · rw [if_neg q1, h2.other q2, h1.other q1]
  rw [hH] at s2
  refine ⟨⟨a, l1, l2⟩, rfl, ?_, ⟨rfl, b1, b2, a1, a2, c1, c2⟩, fun n' hn => ⟨List.nodup_append.2 ⟨nd1, nd2, fun x hx y hy e => ?_⟩, fun x hx => ?_⟩⟩
  · have h0 : ∀ H, solo1 H (.int .i64 a) = some (.int .i64 a, H) := fun _ => rfl
    simp only [solo, solso, h0, m_bind, s1, s2]
    rfl
  · subst e
    obtain ⟨k, hk, hkb⟩ := (t1 _ hx).2.1
    exact (t2 _ hy).2.2 d1 k hk hkb
  · rcases List.mem_append.1 hx with hx | hx
    · obtain ⟨k, hk, hkb⟩ := (t1 _ hx).2.1
      exact ⟨(t1 _ hx).1, hkb ▸ hn d1 k (by rw [o1]; exact hk)⟩
    · obtain ⟨k, hk, hkb⟩ := (t2 _ hx).2.1
      exact ⟨(t2 _ hx).1, hkb ▸ hn d2 k hk⟩
end Go.AVM

/- What the law makes of a list of hunks, marked; lists of hunks as results. -/
set_option linter.unusedSimpArgs false
set_option linter.unusedVariables false
namespace Go.AVM
theorem rm_le2 (k : Nat) : rm k ≤ k + 1 := rm_le k
theorem IsStr.sl {lo hi : Nat} {xs : List ByteArray} {r : AV} (h : IsStr lo hi xs r) : SlOk r := by
  rcases h with ⟨_, rfl⟩ | ⟨g, _, _, rfl⟩
  · exact .inl rfl
  · exact .inr ⟨g, xs.length, roomy xs, rfl, by simp [roomy]⟩
theorem IsStr.len {lo hi : Nat} {xs : List ByteArray} {r : AV} (h : IsStr lo hi xs r) : lenV r = xs.length := by
  rcases h with ⟨rfl, rfl⟩ | ⟨g, _, _, rfl⟩ <;> rfl
theorem rows_of : ∀ (ys : List AV), (∀ y ∈ ys, ∃ q : HRow, q.ok ∧ y = q.v) → ∃ qs : List HRow, ys = qs.map HRow.v ∧ ∀ q ∈ qs, q.ok
  | [], _ => ⟨[], rfl, by simp⟩
  | y :: ys, h => by
    obtain ⟨q, hq, rfl⟩ := h y List.mem_cons_self
    obtain ⟨qs, rfl, hqs⟩ := rows_of ys fun z hz => h z (List.mem_cons_of_mem _ hz)
    exact ⟨q :: qs, rfl, fun z hz => (List.mem_cons.1 hz).elim (fun e => e ▸ hq) (hqs z)⟩
theorem IsL.hsl {lo hi : Nat} {xs : List HunkL} {b : Bool} {r : AV} (ho : okHs xs) (h : IsL 3 (fun lo hi x r => IsHunk lo hi x b r) FlH lo hi xs b r) : HSl r := by
  rcases h with ⟨_, rfl, _⟩ | ⟨g, rows, h1, h2, rfl, hl, ht, hi', hf⟩
  · exact .inl rfl
  · obtain ⟨qs, rfl, hqs⟩ := rows_of rows fun y hy => by
      obtain ⟨i, hlt, rfl⟩ := List.getElem_of_mem hy
      by_cases hi : i < xs.length
      · obtain ⟨_, _, l1, l2, m1, m2, e, _, _, _, q1, q2, _⟩ := hi' i _ _ (List.getElem?_eq_getElem hi) (List.getElem?_eq_getElem hlt)
        have hx := ho.2 _ (List.getElem_mem hi)
        have a1 := hx.1.1
        have a2 := hx.2.1
        have b1 := q1.len
        have b2 := q2.len
        exact ⟨⟨xs[i].at_, l1, l2⟩, ⟨q1.sl, q2.sl, by dsimp only; omega, by dsimp only; omega⟩, e⟩
      · obtain ⟨b1, b2, e⟩ := hf i _ (by omega) (List.getElem?_eq_getElem hlt)
        exact ⟨⟨_, _, _⟩, ⟨.inr ⟨b1, 1, [spare], rfl, by simp⟩, .inr ⟨b2, 1, [spare], rfl, by simp⟩, by simp [lenV], by simp [lenV]⟩, e⟩
    have := ho.1
    rw [tags_rows] at ht
    exact .inr ⟨g, xs.length, qs, rfl, by simpa using (show xs.length ≤ (qs.map HRow.v).length by omega), by omega, hqs, ht.1⟩
theorem hunks_toA (xs : List HunkL) (b : Bool) (ho : okHs xs) : OK Go.Proofs.Try.prog 9 [hunksV xs, .bool b] (fun lo hi r => ToA Go.Proofs.Try.prog 15 (hunksV xs) (hunksF xs) b lo hi r) :=
  (s_toHunkS xs b ho).weak fun lo hi r q => ⟨⟨q.wk fun _ _ _ _ h => h.wk, (q.hsl ho).tok, q.tin⟩, fun hb => by subst hb; exact q.wkF (e := hunkV) (fx := fillL) (fun _ h => h.wk) fun _ _ _ _ h => h.wkF, (q.hsl ho).markA⟩
theorem hunks_eq (xs : List HunkL) (h : xs.length ≤ 1000000) (h2 : ∀ x ∈ xs, x.less.length ≤ 1000000 ∧ x.more.length ≤ 1000000) : OK Go.Proofs.Try.prog 11 [hunksV xs, hunksV xs] (fun _ _ r => r = .bool true) :=
  (s_eqHunkS xs xs (by omega) fun x hx => by have := h2 x hx; omega).weak fun _ _ r hr => by simpa using hr
end Go.AVM

/- PatchBack, both. -/
set_option linter.unusedSimpArgs false
set_option linter.unusedVariables false
namespace Go.AVM
/-- a patch taken back, from a place that has moved -/
def bk : Int → List HunkL → List HunkL
  | _, [] => []
  | m, h :: hs => ⟨h.at_ + m, h.more, h.less⟩ :: bk (m + h.more.length - h.less.length) hs
def backL (d : List HunkL) : List HunkL := if patchOk d = true then bk 0 d else []
theorem bk_len : ∀ (m : Int) (d : List HunkL), (bk m d).length = d.length
  | _, [] => rfl
  | m, h :: hs => by simp [bk, bk_len _ hs]
theorem bk_ok : ∀ (m : Int) (d : List HunkL), (∀ x ∈ d, hOk x = true) → ∀ x ∈ bk m d, x.less.length ≤ 10 ∧ x.more.length ≤ 10
  | _, [], _, x, hx => by simp [bk] at hx
  | m, h :: hs, hd, x, hx => by
    rcases List.mem_cons.1 hx with rfl | hx
    · have := hOk_at (hd h List.mem_cons_self)
      exact ⟨this.2.2.2, this.2.2.1⟩
    · exact bk_ok _ hs (fun y hy => hd y (List.mem_cons_of_mem _ hy)) x hx
theorem backL_ok (d : List HunkL) : (backL d).length ≤ 1000000 ∧ ∀ x ∈ backL d, x.less.length ≤ 1000000 ∧ x.more.length ≤ 1000000 := by
  unfold backL
  split
  · rename_i h
    obtain ⟨h1, h2⟩ := patchOk_all h
    refine ⟨by rw [bk_len]; omega, fun x hx => ?_⟩
    have := bk_ok 0 d h1 x hx
    omega
  · simp
theorem so_own {H : Hp} {d b s len : Nat} {k : Blk} (hk : H d = some k) (hb : k.b = b) (hs : k.s = s) (hl : len ≤ k.xs.length) : solo1 H (.own d b s len) = some (.lsl (some (b, s)) len k.xs, updH H d none) := by simp [solo1, hk, hb, hs, hl]
theorem fa_h0 (h : HunkL) : fldAv 0 (.lptr (hunkV h)) = some (.lptr (.int .i64 h.at_)) := by simp [fldAv, hunkV, strs, AV.isAgg, AV.sz]
theorem fa_h1 (h : HunkL) : fldAv 1 (.lptr (hunkV h)) = some (.lptr (strs h.less)) := by simp [fldAv, hunkV, strs, AV.isAgg, AV.sz]
theorem fa_h2 (h : HunkL) : fldAv 2 (.lptr (hunkV h)) = some (.lptr (strs h.more)) := by simp [fldAv, hunkV, strs, AV.isAgg, AV.sz]
theorem srcF_strs (xs : List ByteArray) : srcF (strs xs) = some (xs.map .str) := by simp [srcF, strs, List.take_of_length_le]
theorem sz_row (r : HRow) : r.v.sz = 3 := Eq.trans rfl rfl
theorem s_grows (h : HunkL) (h1 : h.less.length ≤ 1000000) (h2 : h.more.length ≤ 1000000) : OK Go.Proofs.Try.prog 37 [hunkV h] (fun _ _ r => r = .int .i64 ((h.more.length : Int) - h.less.length)) := by
  refine fn_ok k37 rfl ?_
  generalize OK Go.Proofs.Try.prog = L at *
  intro lo
  simp -dsimp only [↓SD, SP, ↓reduceIte, Nat.reduceEqDiff, ini, frz, rdAo, rd3o, rd2o, rdpo, rd1o, fnv, intv, VOp.dst, getRo, solEo, solo, solo1, allsz, List.all_cons, List.all_nil, Bool.and_true, beq_self_eq_true, List.length_cons, List.length_nil, Nat.zero_add, srcv, Nat.le_refl, List.take_succ_cons, List.take_zero, and_self, if_true, Nat.reduceAdd, Nat.reduceLT, eq_self, c37, sz_hunk]
  refine bal_mk fun b hb => ?_
  simp -dsimp only [↓SD, SP, ↓reduceIte, Nat.reduceEqDiff, ini, frz, rdAo, rd3o, rd2o, rdpo, rd1o, fnv, intv, VOp.dst, getRo, solEo, solo, solo1, allsz, List.all_cons, List.all_nil, Bool.and_true, beq_self_eq_true, List.length_cons, List.length_nil, Nat.zero_add, srcv, Nat.le_refl, List.take_succ_cons, List.take_zero, and_self, if_true, Nat.reduceAdd, Nat.reduceLT, eq_self, fldAv, ↓ldv_f, ↓ldv_n, ↓stv_f, ↓stv_a, fldv, setf, bldv, small, Bool.true_and, List.getElem?_cons_zero, List.getElem?_cons_succ, List.set_cons_zero, List.set_cons_succ, Bool.false_eq_true, if_false, true_and, and_true, reduceCtorEq, false_implies, implies_true, forall_const, ↓fv_hunk1, ↓fv_hunk2, l_strs, wrap64 ((h.more.length : Int) - h.less.length) (by omega)]
end Go.AVM
