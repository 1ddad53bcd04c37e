/- Marks of lists of hunks. -/
import Derived.Test.YtnanbjnadkoekaaDoorFD4
set_option linter.unusedSimpArgs false
set_option linter.unusedVariables false
namespace Go.AVM
/-- a list of strings in a row: none, or one with its own block -/
def SlOk (l : AV) : Prop := l = .emp ∨ ∃ (b m : Nat) (xs : List ByteArray), l = .lsl (some (b, 1)) m (xs.map AV.str) ∧ m ≤ xs.length
def SOrig (H : Hp) : AV → Prop
  | .lsl (some (b, _)) _ xs => H b = some ⟨b, 1, xs, false, false, false⟩
  | _ => True
def SHeld (H : Hp) (k : Nat) : AV → Prop
  | .lsl (some (b, _)) m _ => ∃ rest, H b = some ⟨b, 1, (mks k m).map .str ++ rest, false, false, false⟩
  | _ => True
def lenV : AV → Nat
  | .lsl _ m _ => m
  | _ => 0
theorem SlOk.fld {l : AV} (h : SlOk l) : (ow l).isAgg = false ∧ (ow l).sz = 1 := by
  rcases h with rfl | ⟨b, m, xs, rfl, _⟩ <;> exact ⟨rfl, rfl⟩
theorem SlOk.tok {l : AV} (h : SlOk l) : tok l = true := by
  rcases h with rfl | ⟨b, m, xs, rfl, _⟩
  · rfl
  · exact tok_row _ _ _ fun x hx => by obtain ⟨s, _, rfl⟩ := List.mem_map.1 hx; rfl
theorem SOrig.frame {H H' : Hp} {l : AV} (h : SOrig H l) (hf : ∀ q ∈ tags l, H' q = H q) : SOrig H' l := by
  unfold SOrig at *
  split <;> first | trivial | skip
  rw [hf _ (by simp [tags])]
  exact h
theorem SHeld.frame {H H' : Hp} {k : Nat} {l : AV} (h : SHeld H k l) (hf : ∀ q ∈ tags l, H' q = H q) : SHeld H' k l := by
  unfold SHeld at *
  split <;> first | trivial | skip
  rw [hf _ (by simp [tags])]
  exact h
theorem mark_sl (l : AV) (hl : SlOk l) (H : Hp) (hb : NoFz H) (ho : SOrig H l) (k : Nat) (h0 : 0 < k) (hk : k + lenV l ≤ 4000000000000000000) :
    OKM Go.Proofs.Tryd.prog 26 [ow l, .int .i64 k] H (fun _ _ r H' => r = .int .i64 (k + lenV l : Nat) ∧ NoFz H' ∧ SHeld H' k l ∧ ∀ q, q ∉ tags l → H' q = H q) := by
  rcases hl with rfl | ⟨b, m, xs, rfl, hm⟩
  · exact (s_markStringS0 k H).weak fun _ _ r H' ⟨h1, h2⟩ => ⟨h1, by rw [h2]; exact hb, trivial, fun q _ => by rw [h2]⟩
  · refine (s_markStringS b b m k (xs.map .str) H ho (by simpa using hm) h0 hk).weak fun _ _ r H' ⟨h1, h2⟩ => ⟨h1, by rw [h2]; exact updH_nofz hb rfl, ⟨(xs.map .str).drop m, by rw [h2]; exact if_pos rfl⟩, fun q hq => ?_⟩
    rw [h2]
    exact if_neg fun e => hq (by simp [tags, e])
theorem held_sl (l : AV) (hl : SlOk l) (H : Hp) (k : Nat) (ho : SHeld H k l) (h0 : 0 < k) (hk : k + lenV l ≤ 4000000000000000000) :
    OKM Go.Proofs.Tryd.prog 27 [ow l, .int .i64 k] H (fun _ _ r H' => r = .int .i64 (k + lenV l : Nat) ∧ H' = H) := by
  rcases hl with rfl | ⟨b, m, xs, rfl, hm⟩
  · exact s_heldStringS0 k H
  · obtain ⟨rest, hr⟩ := ho
    exact s_heldStringS b b m k rest H hr h0 hk
structure HRow where
  a : Int
  l1 : AV
  l2 : AV
def HRow.v (r : HRow) : AV := .agg [.int .i64 r.a, r.l1, r.l2]
def HRow.o (r : HRow) : AV := .agg [.int .i64 r.a, ow r.l1, ow r.l2]
def HRow.tg (r : HRow) : List Nat := tags r.l1 ++ tags r.l2
def HRow.ok (r : HRow) : Prop := SlOk r.l1 ∧ SlOk r.l2 ∧ lenV r.l1 ≤ 1000000 ∧ lenV r.l2 ≤ 1000000
/-- the number that row i is marked with -/
def hk (k : Nat) : List HRow → Nat
  | [] => k
  | r :: rs => hk (k + 1 + lenV r.l1 + lenV r.l2) rs
theorem hk_snoc (k : Nat) (rs : List HRow) (r : HRow) : hk k (rs ++ [r]) = hk k rs + 1 + lenV r.l1 + lenV r.l2 := by
  induction rs generalizing k with
  | nil => rfl
  | cons q rs ih => simp [hk, ih]
theorem hk_le (k : Nat) (rs : List HRow) (h : ∀ r ∈ rs, r.ok) : k ≤ hk k rs ∧ hk k rs ≤ k + rs.length * 2000001 := by
  induction rs generalizing k with
  | nil => exact ⟨Nat.le_refl _, by simp [hk]⟩
  | cons q rs ih =>
    obtain ⟨_, _, h1, h2⟩ := h q List.mem_cons_self
    obtain ⟨h3, h4⟩ := ih (k + 1 + lenV q.l1 + lenV q.l2) fun r hr => h r (List.mem_cons_of_mem _ hr)
    simp only [hk, List.length_cons]
    omega
/-- the rows as they are once marked -/
def hmk (k : Nat) : List HRow → List AV
  | [] => []
  | r :: rs => .agg [.int .i64 k, ow r.l1, ow r.l2] :: hmk (k + 1 + lenV r.l1 + lenV r.l2) rs
theorem hmk_len (k : Nat) (rs : List HRow) : (hmk k rs).length = rs.length := by
  induction rs generalizing k with
  | nil => rfl
  | cons q rs ih => simp [hmk, ih]
theorem hmk_snoc (k : Nat) (rs : List HRow) (r : HRow) : hmk k (rs ++ [r]) = hmk k rs ++ [.agg [.int .i64 (hk k rs), ow r.l1, ow r.l2]] := by
  induction rs generalizing k with
  | nil => rfl
  | cons q rs ih => simp [hmk, hk, ih]
/-- what the lists in the rows hold, once marked -/
def HHeld (H : Hp) (k : Nat) : List HRow → Prop
  | [] => True
  | r :: rs => SHeld H (k + 1) r.l1 ∧ SHeld H (k + 1 + lenV r.l1) r.l2 ∧ HHeld H (k + 1 + lenV r.l1 + lenV r.l2) rs
theorem HHeld.snoc {H : Hp} {k : Nat} {rs : List HRow} {r : HRow} (h : HHeld H k rs) (h1 : SHeld H (hk k rs + 1) r.l1) (h2 : SHeld H (hk k rs + 1 + lenV r.l1) r.l2) : HHeld H k (rs ++ [r]) := by
  induction rs generalizing k with
  | nil => exact ⟨h1, h2, trivial⟩
  | cons q rs ih => exact ⟨h.1, h.2.1, ih h.2.2 h1 h2⟩
theorem HHeld.frame {H H' : Hp} {k : Nat} {rs : List HRow} (h : HHeld H k rs) (hf : ∀ r ∈ rs, ∀ q ∈ r.tg, H' q = H q) : HHeld H' k rs := by
  induction rs generalizing k with
  | nil => trivial
  | cons r rs ih =>
    have := hf r List.mem_cons_self
    exact ⟨h.1.frame fun q hq => this q (List.mem_append_left _ hq), h.2.1.frame fun q hq => this q (List.mem_append_right _ hq), ih h.2.2 fun r hr => hf r (List.mem_cons_of_mem _ hr)⟩
theorem HHeld.get {H : Hp} {k : Nat} {rs rest : List HRow} {r : HRow} (h : HHeld H k (rs ++ r :: rest)) : SHeld H (hk k rs + 1) r.l1 ∧ SHeld H (hk k rs + 1 + lenV r.l1) r.l2 := by
  induction rs generalizing k with
  | nil => exact ⟨h.1, h.2.1⟩
  | cons q rs ih => exact ih h.2.2
theorem st_fld {H : Hp} {d b s i j : Nat} {xs fs : List AV} {ex : Bool} {v : AV} (hH : H d = some ⟨b, s, xs, false, false, ex⟩) (hx : xs[i]? = some (.agg fs)) (hl : fs.length = s) (hj : j < s) (hv : v.isAgg = false ∧ v.sz = 1) :
    stv H none v (.optr d b s i (some j)) = some (updH H d (some ⟨b, s, xs.set i (.agg (fs.set j v)), false, false, ex⟩)) := by
  rw [stv_f, if_pos ⟨by rw [fz_none, hv.1]; rfl, hv.2⟩, hH]
  simp [hx, setf, hl, hj]
theorem ld_fld {H : Hp} {d b s i j : Nat} {xs fs : List AV} {fz row ex : Bool} {v : AV} (hH : H d = some ⟨b, s, xs, fz, row, ex⟩) (hx : xs[i]? = some (.agg fs)) (hj : fs[j]? = some v) (hv : v.isAgg = false) : ldv H none (.optr d b s i (some j)) = some v := by
  rw [ldv_f, hH]
  simp [hx, fldv, hj, hv]
theorem f_optr (d b s i f : Nat) (h : f < s) : fldAv f (.optr d b s i none) = some (.optr d b s i (some f)) := by simp [fldAv, h]
/-- a list of hunks, whole: none, or one whose rows have blocks of their own -/
def HSl (r : AV) : Prop := r = .emp ∨ ∃ (g n : Nat) (rows : List HRow), r = .lsl (some (g, 3)) n (rows.map HRow.v) ∧ n ≤ rows.length ∧ n ≤ 1000000 ∧ (∀ r ∈ rows, r.ok) ∧ (g :: rows.flatMap HRow.tg).Nodup
theorem HRow.ow (r : HRow) : ow r.v = r.o := rfl
theorem tags_rows (rows : List HRow) : tagsL (rows.map HRow.v) = rows.flatMap HRow.tg := by
  induction rows with
  | nil => rfl
  | cons r rs ih => simp [tagsL, ih, HRow.v, HRow.tg, tags]
theorem tok_rows (rows : List HRow) (h : ∀ r ∈ rows, r.ok) : tokL (rows.map HRow.v) = true := (tokL_iff _).2 fun x hx => by
  obtain ⟨r, hr, rfl⟩ := List.mem_map.1 hx
  obtain ⟨h1, h2, _⟩ := h r hr
  simp [HRow.v, tok, tokL, h1.tok, h2.tok]
theorem HSl.tok {r : AV} (h : HSl r) : tok r = true := by
  rcases h with rfl | ⟨g, n, rows, rfl, _, _, hok, _⟩
  · rfl
  · simp only [Go.AVM.tok, tok_rows rows hok]
    rfl
theorem mem_blL {xs : List AV} {x : AV} {p : Nat × Blk} (hx : x ∈ xs) (hp : p ∈ bl x) : p ∈ blL xs := by
  induction xs with
  | nil => cases hx
  | cons y ys ih =>
    simp only [blL]
    rcases List.mem_cons.1 hx with rfl | hx
    · exact List.mem_append_left _ hp
    · exact List.mem_append_right _ (ih hx)
theorem sorig_of {H : Hp} {l : AV} (hl : SlOk l) (h : ∀ p ∈ bl l, H p.1 = some p.2) : SOrig H l := by
  rcases hl with rfl | ⟨b, m, xs, rfl, _⟩
  · trivial
  · have := h (b, ⟨b, 1, owL (xs.map .str), false, false, false⟩) (by simp [bl])
    rw [ow_strs] at this
    exact this
theorem HSl.tree {g n : Nat} {rows : List HRow} (hok : ∀ r ∈ rows, r.ok) (hnd : (g :: rows.flatMap HRow.tg).Nodup) : treeH (.lsl (some (g, 3)) n (rows.map HRow.v)) g = some ⟨g, 3, rows.map HRow.o, false, false, false⟩ ∧
    ∀ r ∈ rows, SOrig (treeH (.lsl (some (g, 3)) n (rows.map HRow.v))) r.l1 ∧ SOrig (treeH (.lsl (some (g, 3)) n (rows.map HRow.v))) r.l2 := by
  have hh := treeH_holds (x := .lsl (some (g, 3)) n (rows.map HRow.v)) (by simp only [Go.AVM.tok, tok_rows rows hok]; rfl) (by simp only [tags, tags_rows]; exact hnd)
  have how : owL (rows.map HRow.v) = rows.map HRow.o := by rw [owL_map, List.map_map]; rfl
  refine ⟨?_, fun r hr => ?_⟩
  · have := hh (g, ⟨g, 3, owL (rows.map HRow.v), false, false, false⟩) (by simp [bl])
    rw [how] at this
    exact this
  · obtain ⟨h1, h2, _⟩ := hok r hr
    have hm : ∀ p ∈ bl r.v, treeH (.lsl (some (g, 3)) n (rows.map HRow.v)) p.1 = some p.2 := fun p hp => hh p (by
      simp only [bl]
      exact List.mem_cons_of_mem _ (mem_blL (List.mem_map.2 ⟨r, hr, rfl⟩) hp))
    exact ⟨sorig_of h1 fun p hp => hm p (by simp [HRow.v, bl, blL, hp]), sorig_of h2 fun p hp => hm p (by simp [HRow.v, bl, blL, hp])⟩
end Go.AVM
