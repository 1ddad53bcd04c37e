/- spec.l1Table. -/
import Derived.Test.YtflhfmpkmbhaiaaFB1
set_option linter.unusedSimpArgs false
set_option linter.unusedVariables false
namespace Go.AVM
theorem app_own {n d s bytes : Nat} {fr kp : Bool} {E : Env} {H : Hp} {d' b len : Nat} {xs ys : List AV} {row ex : Bool} {K : Env → Hp → Nat → Prop} (hH : H d' = some ⟨b, s, xs, false, row, ex⟩) (hfr : fr = true → ex = true) (hl : len = xs.length)
    (hb : (len + ys.length) * bytes ≤ 140737488355328) (hb2 : len + ys.length ≤ 140737488355328)
    (hk : ∀ b' n', n ≤ n' → (b' = b ∨ n ≤ b' ∧ b' < n') → K (upd E d (.own d' b' s (len + ys.length))) (updH H d' (some ⟨b', s, xs ++ ys, false, row, false⟩)) n') : bap n d s bytes fr kp E H (.own d' b s len) ys K :=
  ⟨_, hH, rfl, rfl, rfl, rfl, hfr, hl, hb, hb2, hk⟩
theorem bal_mk {n : Nat} {K : Nat → Prop} (h : ∀ b, n ≤ b → K b) : ball n K := h
theorem Fm.id {H : Hp} : ∀ xs : List AV, Fm H xs xs []
  | [] => .nil
  | x :: xs => .same x xs xs [] (Fm.id xs)
structure TS (H : Hp) (bt : Nat) (bs : Nat → Nat) (f : Nat → Nat → Nat) (N M : Nat) : Prop where
  top : ∃ ex, H 9 = some ⟨bt, 1, (List.range N).map (fun j => AV.own (bs j + 1000) (bs j) 1 M), false, false, ex⟩
  row : ∀ j, j < N → H (bs j + 1000) = some ⟨bs j, 1, (tab (f j) M).map iv, false, true, true⟩
  inj : ∀ j j', j < N → j' < N → bs j = bs j' → j = j'
section
variable {H : Hp} {bt : Nat} {bs : Nat → Nat} {f : Nat → Nat → Nat} {N M : Nat}
theorem TS.ld1 (h : TS H bt bs f N M) {i : Nat} (hi : i < N) : ldv H none (.optr 9 bt 1 i none) = some (.own (bs i + 1000) (bs i) 1 M) := by
  obtain ⟨ex, ht⟩ := h.top
  have := ld_map (fun j => AV.own (bs j + 1000) (bs j) 1 M) ht (i := i) (by simpa using hi) rfl rfl
  rw [this]
  simp
theorem TS.ld2 (h : TS H bt bs f N M) {i k : Nat} (hi : i < N) (hk : k < M) : ldv H none (.optr (bs i + 1000) (bs i) 1 k none) = some (iv (f i k)) := by
  have := ld_int (h.row i hi) (i := k) (by rw [tab_len]; exact hk)
  rwa [tab_get] at this
theorem TS.st (h : TS H bt bs f N M) {i k x : Nat} (hi : i < N) (hk : k < M) : ∃ H', stv H none (.int .i64 x) (.optr (bs i + 1000) (bs i) 1 k none) = some H' ∧ TS H' bt bs (fun j q => if j = i ∧ q = k then x else f j q) N M := by
  refine ⟨_, st_int (h.row i hi) (by rw [tab_len]; exact hk), ?_, fun j hj => ?_, h.inj⟩
  · obtain ⟨ex, ht⟩ := h.top
    refine ⟨ex, ?_⟩
    rw [updH_at, if_neg (by omega)]
    exact ht
  · rw [updH_at]
    by_cases hji : bs j + 1000 = bs i + 1000
    · obtain rfl := h.inj j i hj hi (by omega)
      rw [if_pos rfl]
      congr 3
      refine tab_set _ _ _ _ _ (by simp) fun q _ hq => by simp [hq]
    · rw [if_neg hji]
      have hne : j ≠ i := fun e => hji (by rw [e])
      rw [h.row j hj]
      congr 3
      exact tab_ext _ _ _ fun q _ => by simp [hne]
theorem TS.ext (h : TS H bt bs f N M) {g : Nat → Nat → Nat} (hg : ∀ j q, j < N → q < M → f j q = g j q) : TS H bt bs g N M :=
  ⟨h.top, fun j hj => by rw [h.row j hj, tab_ext _ _ _ fun q hq => hg j q hj hq], h.inj⟩
def rowsV (bs : Nat → Nat) (f : Nat → Nat → Nat) (N M : Nat) : List AV := (List.range N).map fun j => .lsl (some (bs j, 1)) M ((tab (f j) M).map iv)
theorem TS.fm (h : TS H bt bs f N M) : ∃ ks, Fm H [.own 9 bt 1 N] [.lsl (some (bt, 1)) N (rowsV bs f N M)] ks := by
  obtain ⟨ex, ht⟩ := h.top
  have key : ∀ js : List Nat, (∀ j ∈ js, j < N) → ∃ ks, Fm H (js.map fun j => AV.own (bs j + 1000) (bs j) 1 M) (js.map fun j => .lsl (some (bs j, 1)) M ((tab (f j) M).map iv)) ks := by
    intro js
    induction js with
    | nil => exact fun _ => ⟨[], .nil⟩
    | cons j js ih =>
      intro hj
      obtain ⟨ks, hk⟩ := ih fun q hq => hj q (List.mem_cons_of_mem _ hq)
      exact ⟨_, .own _ _ _ _ _ _ _ _ [] ks (h.row j (hj j List.mem_cons_self)) rfl rfl (by simp [tab]) (Fm.id _) hk⟩
  obtain ⟨ks, hk⟩ := key (List.range N) fun j hj => List.mem_range.1 hj
  exact ⟨_, .own 9 bt 1 N _ _ [] [] ks [] ht rfl rfl (by simp) hk .nil⟩
end

theorem s_l1Table (xs ys : List ByteArray) (hx : xs.length ≤ 1000) (hy : ys.length ≤ 1000) :
    OK Go.Proofs.Try.prog 51 [strs xs, strs ys] (fun _ _ r => ∃ bt bs, r = .lsl (some (bt, 1)) (xs.length + 1) (rowsV bs (lt xs ys) (xs.length + 1) (ys.length + 1))) := by
  refine fn_ok k51 rfl ?_
  generalize OK Go.Proofs.Try.prog = L
  intro lo
  simp -dsimp only [↓SD, SP, ↓reduceIte, Nat.reduceEqDiff, ini, frz, rdAo, rd3o, rd2o, rdpo, rd1o, fnv, intv, VOp.dst, getRo, solEo, solo, solo1, allsz, List.all_cons, List.all_nil, Bool.and_true, beq_self_eq_true, List.length_cons, List.length_nil, Nat.zero_add, srcv, Nat.le_refl, List.take_succ_cons, List.take_zero, and_self, if_true, Nat.reduceAdd, Nat.reduceLT, eq_self, c51, allsz, List.all_nil]
  refine bal_mk fun g hg => ?_
  simp -dsimp only [↓SD, SP, ↓reduceIte, Nat.reduceEqDiff, ini, frz, rdAo, rd3o, rd2o, rdpo, rd1o, fnv, intv, VOp.dst, getRo, solEo, solo, solo1, allsz, List.all_cons, List.all_nil, Bool.and_true, beq_self_eq_true, List.length_cons, List.length_nil, Nat.zero_add, srcv, Nat.le_refl, List.take_succ_cons, List.take_zero, and_self, if_true, Nat.reduceAdd, Nat.reduceLT, eq_self, List.length_nil]
  refine loop_rule (fun m E H n => ∃ (i bt : Nat) (bs : Nat → Nat), m + i = xs.length + 1 ∧ E 0 = strs xs ∧ E 1 = strs ys ∧ E 5 = .own 9 bt 1 i ∧ E 6 = iv i ∧ TS H bt bs (fun _ _ => 0) i (ys.length + 1) ∧ ∀ j, j < i → bs j < n)
    (fun e E H n => e = .exit 0 ∧ E 0 = strs xs ∧ E 1 = strs ys ∧ ∃ bt bs, E 5 = .own 9 bt 1 (xs.length + 1) ∧ TS H bt bs (fun _ _ => 0) (xs.length + 1) (ys.length + 1))
    (xs.length + 1) ⟨0, g, fun _ => 0, rfl, rfl, rfl, rfl, rfl, ⟨⟨true, rfl⟩, by simp, by simp⟩, by simp⟩ ?_ ?_
  · rintro e E H n ⟨rfl, h0, h1, bt, bs, h5, hT⟩
    simp -dsimp only [↓SD, SP, ↓reduceIte, Nat.reduceEqDiff, ini, frz, rdAo, rd3o, rd2o, rdpo, rd1o, fnv, intv, VOp.dst, getRo, solEo, solo, solo1, allsz, List.all_cons, List.all_nil, Bool.and_true, beq_self_eq_true, List.length_cons, List.length_nil, Nat.zero_add, srcv, Nat.le_refl, List.take_succ_cons, List.take_zero, and_self, if_true, Nat.reduceAdd, Nat.reduceLT, eq_self, h0, h1, l_strs, wrap64 ((xs.length : Int) - 1) (by omega)]
    refine loop_rule (fun m E H n => m ≤ xs.length ∧ E 0 = strs xs ∧ E 1 = strs ys ∧ E 5 = .own 9 bt 1 (xs.length + 1) ∧ E 7 = .int .i64 ((m : Int) - 1) ∧ TS H bt bs (fun j q => if m ≤ j then lt xs ys j q else 0) (xs.length + 1) (ys.length + 1))
      (fun e E H n => e = .exit 2 ∧ E 5 = .own 9 bt 1 (xs.length + 1) ∧ TS H bt bs (lt xs ys) (xs.length + 1) (ys.length + 1))
      xs.length ⟨Nat.le_refl _, ?_, ?_, ?_, ?_, ?_⟩ ?_ ?_
    · simp -dsimp only [↓SD, SP, ↓reduceIte, Nat.reduceEqDiff, ini, frz, rdAo, rd3o, rd2o, rdpo, rd1o, fnv, intv, VOp.dst, getRo, solEo, solo, solo1, allsz, List.all_cons, List.all_nil, Bool.and_true, beq_self_eq_true, List.length_cons, List.length_nil, Nat.zero_add, srcv, Nat.le_refl, List.take_succ_cons, List.take_zero, and_self, if_true, Nat.reduceAdd, Nat.reduceLT, eq_self, h0]
    · simp -dsimp only [↓SD, SP, ↓reduceIte, Nat.reduceEqDiff, ini, frz, rdAo, rd3o, rd2o, rdpo, rd1o, fnv, intv, VOp.dst, getRo, solEo, solo, solo1, allsz, List.all_cons, List.all_nil, Bool.and_true, beq_self_eq_true, List.length_cons, List.length_nil, Nat.zero_add, srcv, Nat.le_refl, List.take_succ_cons, List.take_zero, and_self, if_true, Nat.reduceAdd, Nat.reduceLT, eq_self, h1]
    · simp -dsimp only [↓SD, SP, ↓reduceIte, Nat.reduceEqDiff, ini, frz, rdAo, rd3o, rd2o, rdpo, rd1o, fnv, intv, VOp.dst, getRo, solEo, solo, solo1, allsz, List.all_cons, List.all_nil, Bool.and_true, beq_self_eq_true, List.length_cons, List.length_nil, Nat.zero_add, srcv, Nat.le_refl, List.take_succ_cons, List.take_zero, and_self, if_true, Nat.reduceAdd, Nat.reduceLT, eq_self, h5]
    · simp -dsimp only [↓SD, SP, ↓reduceIte, Nat.reduceEqDiff, ini, frz, rdAo, rd3o, rd2o, rdpo, rd1o, fnv, intv, VOp.dst, getRo, solEo, solo, solo1, allsz, List.all_cons, List.all_nil, Bool.and_true, beq_self_eq_true, List.length_cons, List.length_nil, Nat.zero_add, srcv, Nat.le_refl, List.take_succ_cons, List.take_zero, and_self, if_true, Nat.reduceAdd, Nat.reduceLT, eq_self]
    · refine hT.ext fun j q hj hq => ?_
      by_cases hxj : xs.length ≤ j
      · rw [if_pos hxj, lt_end _ _ _ _ hxj]
      · rw [if_neg hxj]
    · rintro e E H n ⟨rfl, h5, hT⟩
      simp -dsimp only [↓SD, SP, ↓reduceIte, Nat.reduceEqDiff, ini, frz, rdAo, rd3o, rd2o, rdpo, rd1o, fnv, intv, VOp.dst, getRo, solEo, solo, solo1, allsz, List.all_cons, List.all_nil, Bool.and_true, beq_self_eq_true, List.length_cons, List.length_nil, Nat.zero_add, srcv, Nat.le_refl, List.take_succ_cons, List.take_zero, and_self, if_true, Nat.reduceAdd, Nat.reduceLT, eq_self, h5]
      obtain ⟨ks, hF⟩ := hT.fm
      refine gh_firm1 4 hF (by decide) (by simp -dsimp only [↓SD, SP, ↓reduceIte, Nat.reduceEqDiff, ini, frz, rdAo, rd3o, rd2o, rdpo, rd1o, fnv, intv, VOp.dst, getRo, solEo, solo, solo1, allsz, List.all_cons, List.all_nil, Bool.and_true, beq_self_eq_true, List.length_cons, List.length_nil, Nat.zero_add, srcv, Nat.le_refl, List.take_succ_cons, List.take_zero, and_self, if_true, Nat.reduceAdd, Nat.reduceLT, eq_self]) (by simp [AV.sz]) ?_
      simp -dsimp only [↓SD, SP, ↓reduceIte, Nat.reduceEqDiff, ini, frz, rdAo, rd3o, rd2o, rdpo, rd1o, fnv, intv, VOp.dst, getRo, solEo, solo, solo1, allsz, List.all_cons, List.all_nil, Bool.and_true, beq_self_eq_true, List.length_cons, List.length_nil, Nat.zero_add, srcv, Nat.le_refl, List.take_succ_cons, List.take_zero, and_self, if_true, Nat.reduceAdd, Nat.reduceLT, eq_self]
      exact ⟨bt, bs, rfl⟩
    · rintro m E H n Q K ⟨hm, h0, h1, h5, h7, hT⟩ hQ hK
      by_cases hi : 0 ≤ (m : Int) - 1
      · obtain ⟨i, rfl⟩ : ∃ i, m = i + 1 := ⟨m - 1, by omega⟩
        have e7 : ((i + 1 : Nat) : Int) - 1 = i := by omega
        simp -dsimp only [↓SD, SP, ↓reduceIte, Nat.reduceEqDiff, ini, frz, rdAo, rd3o, rd2o, rdpo, rd1o, fnv, intv, VOp.dst, getRo, solEo, solo, solo1, allsz, List.all_cons, List.all_nil, Bool.and_true, beq_self_eq_true, List.length_cons, List.length_nil, Nat.zero_add, srcv, Nat.le_refl, List.take_succ_cons, List.take_zero, and_self, if_true, Nat.reduceAdd, Nat.reduceLT, eq_self, h0, h1, h5, h7, hi, l_strs, wrap64 ((ys.length : Int) - 1) (by omega)]
        refine loop_rule (fun p E H n => p ≤ ys.length ∧ E 0 = strs xs ∧ E 1 = strs ys ∧ E 5 = .own 9 bt 1 (xs.length + 1) ∧ E 7 = .int .i64 i ∧ E 8 = .int .i64 ((p : Int) - 1) ∧ TS H bt bs (fun j q => if i + 1 ≤ j ∨ j = i ∧ p ≤ q then lt xs ys j q else 0) (xs.length + 1) (ys.length + 1))
          (fun e E H n => e = .exit 4 ∧ E 0 = strs xs ∧ E 1 = strs ys ∧ E 5 = .own 9 bt 1 (xs.length + 1) ∧ E 7 = .int .i64 i ∧ TS H bt bs (fun j q => if i ≤ j then lt xs ys j q else 0) (xs.length + 1) (ys.length + 1))
          ys.length ⟨Nat.le_refl _, ?_, ?_, ?_, ?_, ?_, ?_⟩ ?_ ?_
        · simp -dsimp only [↓SD, SP, ↓reduceIte, Nat.reduceEqDiff, ini, frz, rdAo, rd3o, rd2o, rdpo, rd1o, fnv, intv, VOp.dst, getRo, solEo, solo, solo1, allsz, List.all_cons, List.all_nil, Bool.and_true, beq_self_eq_true, List.length_cons, List.length_nil, Nat.zero_add, srcv, Nat.le_refl, List.take_succ_cons, List.take_zero, and_self, if_true, Nat.reduceAdd, Nat.reduceLT, eq_self, h0]
        · simp -dsimp only [↓SD, SP, ↓reduceIte, Nat.reduceEqDiff, ini, frz, rdAo, rd3o, rd2o, rdpo, rd1o, fnv, intv, VOp.dst, getRo, solEo, solo, solo1, allsz, List.all_cons, List.all_nil, Bool.and_true, beq_self_eq_true, List.length_cons, List.length_nil, Nat.zero_add, srcv, Nat.le_refl, List.take_succ_cons, List.take_zero, and_self, if_true, Nat.reduceAdd, Nat.reduceLT, eq_self, h1]
        · simp -dsimp only [↓SD, SP, ↓reduceIte, Nat.reduceEqDiff, ini, frz, rdAo, rd3o, rd2o, rdpo, rd1o, fnv, intv, VOp.dst, getRo, solEo, solo, solo1, allsz, List.all_cons, List.all_nil, Bool.and_true, beq_self_eq_true, List.length_cons, List.length_nil, Nat.zero_add, srcv, Nat.le_refl, List.take_succ_cons, List.take_zero, and_self, if_true, Nat.reduceAdd, Nat.reduceLT, eq_self, h5]
        · simp -dsimp only [↓SD, SP, ↓reduceIte, Nat.reduceEqDiff, ini, frz, rdAo, rd3o, rd2o, rdpo, rd1o, fnv, intv, VOp.dst, getRo, solEo, solo, solo1, allsz, List.all_cons, List.all_nil, Bool.and_true, beq_self_eq_true, List.length_cons, List.length_nil, Nat.zero_add, srcv, Nat.le_refl, List.take_succ_cons, List.take_zero, and_self, if_true, Nat.reduceAdd, Nat.reduceLT, eq_self, h7, e7]
        · simp -dsimp only [↓SD, SP, ↓reduceIte, Nat.reduceEqDiff, ini, frz, rdAo, rd3o, rd2o, rdpo, rd1o, fnv, intv, VOp.dst, getRo, solEo, solo, solo1, allsz, List.all_cons, List.all_nil, Bool.and_true, beq_self_eq_true, List.length_cons, List.length_nil, Nat.zero_add, srcv, Nat.le_refl, List.take_succ_cons, List.take_zero, and_self, if_true, Nat.reduceAdd, Nat.reduceLT, eq_self]
        · refine hT.ext fun j q hj hq => ?_
          by_cases hij : i + 1 ≤ j
          · rw [if_pos hij, if_pos (.inl hij)]
          · rw [if_neg hij]
            by_cases hq' : j = i ∧ ys.length ≤ q
            · rw [if_pos (.inr hq'), lt_end2 _ _ _ _ hq'.2]
            · rw [if_neg (by rintro (h | h); exact hij h; exact hq' h)]
        · rintro e E H n ⟨rfl, h0, h1, h5, h7, hT⟩
          simp -dsimp only [↓SD, SP, ↓reduceIte, Nat.reduceEqDiff, ini, frz, rdAo, rd3o, rd2o, rdpo, rd1o, fnv, intv, VOp.dst, getRo, solEo, solo, solo1, allsz, List.all_cons, List.all_nil, Bool.and_true, beq_self_eq_true, List.length_cons, List.length_nil, Nat.zero_add, srcv, Nat.le_refl, List.take_succ_cons, List.take_zero, and_self, if_true, Nat.reduceAdd, Nat.reduceLT, eq_self, h7, wrap64 ((i : Int) - 1) (by omega)]
          refine hK i _ _ _ rfl ⟨by omega, ?_, ?_, ?_, ?_, hT⟩
          · simp -dsimp only [↓SD, SP, ↓reduceIte, Nat.reduceEqDiff, ini, frz, rdAo, rd3o, rd2o, rdpo, rd1o, fnv, intv, VOp.dst, getRo, solEo, solo, solo1, allsz, List.all_cons, List.all_nil, Bool.and_true, beq_self_eq_true, List.length_cons, List.length_nil, Nat.zero_add, srcv, Nat.le_refl, List.take_succ_cons, List.take_zero, and_self, if_true, Nat.reduceAdd, Nat.reduceLT, eq_self, h0]
          · simp -dsimp only [↓SD, SP, ↓reduceIte, Nat.reduceEqDiff, ini, frz, rdAo, rd3o, rd2o, rdpo, rd1o, fnv, intv, VOp.dst, getRo, solEo, solo, solo1, allsz, List.all_cons, List.all_nil, Bool.and_true, beq_self_eq_true, List.length_cons, List.length_nil, Nat.zero_add, srcv, Nat.le_refl, List.take_succ_cons, List.take_zero, and_self, if_true, Nat.reduceAdd, Nat.reduceLT, eq_self, h1]
          · simp -dsimp only [↓SD, SP, ↓reduceIte, Nat.reduceEqDiff, ini, frz, rdAo, rd3o, rd2o, rdpo, rd1o, fnv, intv, VOp.dst, getRo, solEo, solo, solo1, allsz, List.all_cons, List.all_nil, Bool.and_true, beq_self_eq_true, List.length_cons, List.length_nil, Nat.zero_add, srcv, Nat.le_refl, List.take_succ_cons, List.take_zero, and_self, if_true, Nat.reduceAdd, Nat.reduceLT, eq_self, h5]
          · simp -dsimp only [↓SD, SP, ↓reduceIte, Nat.reduceEqDiff, ini, frz, rdAo, rd3o, rd2o, rdpo, rd1o, fnv, intv, VOp.dst, getRo, solEo, solo, solo1, allsz, List.all_cons, List.all_nil, Bool.and_true, beq_self_eq_true, List.length_cons, List.length_nil, Nat.zero_add, srcv, Nat.le_refl, List.take_succ_cons, List.take_zero, and_self, if_true, Nat.reduceAdd, Nat.reduceLT, eq_self]
        · rintro p E H n Q' K' ⟨hp, h0, h1, h5, h7, h8, hT⟩ hQ' hK'
          by_cases hk : 0 ≤ (p : Int) - 1
          · obtain ⟨k, rfl⟩ : ∃ k, p = k + 1 := ⟨p - 1, by omega⟩
            have e8 : ((k + 1 : Nat) : Int) - 1 = k := by omega
            have hik : i < xs.length := by omega
            have hkk : k < ys.length := by omega
            have a1 := hT.ld1 (i := i) (by omega)
            have a2 := hT.ld1 (i := i + 1) (by omega)
            have b1 := hT.ld2 (i := i + 1) (k := k + 1) (by omega) (by omega)
            have b2 := hT.ld2 (i := i + 1) (k := k) (by omega) (by omega)
            have b3 := hT.ld2 (i := i) (k := k + 1) (by omega) (by omega)
            rw [if_pos (.inl (Nat.le_refl _))] at b1 b2
            rw [if_pos (.inr ⟨rfl, Nat.le_refl _⟩)] at b3
            have x1 := x_own 9 bt 1 (xs.length + 1) i (by omega)
            have x2 := x_ownI 9 bt 1 (xs.length + 1) ((i : Int) + 1) (i + 1) (by omega) (by omega)
            have y1 := fun j => x_own (bs j + 1000) (bs j) 1 (ys.length + 1) k (by omega)
            have y2 := fun j => x_ownI (bs j + 1000) (bs j) 1 (ys.length + 1) ((k : Int) + 1) (k + 1) (by omega) (by omega)
            have l1 := lt_le xs ys (i + 1) (k + 1)
            have hst := lt_step xs ys i k hik hkk
            rw [e8] at h8 hk
            have w1 := wrap64 ((i : Int) + 1) (by omega)
            have w2 := wrap64 ((k : Int) + 1) (by omega)
            have fin : ∀ x, lt xs ys i k = x → ∃ H', stv H none (.int .i64 x) (.optr (bs i + 1000) (bs i) 1 k none) = some H' ∧ TS H' bt bs (fun j q => if i + 1 ≤ j ∨ j = i ∧ k ≤ q then lt xs ys j q else 0) (xs.length + 1) (ys.length + 1) := by
              rintro _ rfl
              obtain ⟨H', h1, h2⟩ := hT.st (i := i) (k := k) (x := lt xs ys i k) (by omega) (by omega)
              refine ⟨H', h1, h2.ext fun j q _ _ => ?_⟩
              by_cases hjq : j = i ∧ q = k
              · obtain ⟨rfl, rfl⟩ := hjq
                rw [if_pos ⟨rfl, rfl⟩, if_pos (.inr ⟨rfl, Nat.le_refl _⟩)]
              · rw [if_neg hjq]
                by_cases hc : i + 1 ≤ j ∨ j = i ∧ k ≤ q
                · rw [if_pos hc, if_pos (by omega)]
                · rw [if_neg hc, if_neg (by omega)]
            by_cases he : xs[i] = ys[k]
            · rw [if_pos he] at hst
              obtain ⟨H', s1, s2⟩ := fin _ hst
              rw [Int.natCast_add, Int.natCast_one] at s1
              simp -dsimp only [↓SD, SP, ↓reduceIte, Nat.reduceEqDiff, ini, frz, rdAo, rd3o, rd2o, rdpo, rd1o, fnv, intv, VOp.dst, getRo, solEo, solo, solo1, allsz, List.all_cons, List.all_nil, Bool.and_true, beq_self_eq_true, List.length_cons, List.length_nil, Nat.zero_add, srcv, Nat.le_refl, List.take_succ_cons, List.take_zero, and_self, if_true, Nat.reduceAdd, Nat.reduceLT, eq_self, h0, h1, h5, h7, h8, hk, x_strs _ _ hik, x_strs _ _ hkk, he, a1, a2, b1, x1, x2, y1, y2, w1, w2, wrap64 ((lt xs ys (i + 1) (k + 1) : Int) + 1) (by omega), s1, wrap64 ((k : Int) - 1) (by omega)]
              refine hK' k _ _ _ rfl ⟨by omega, ?_, ?_, ?_, ?_, ?_, s2⟩
              · simp -dsimp only [↓SD, SP, ↓reduceIte, Nat.reduceEqDiff, ini, frz, rdAo, rd3o, rd2o, rdpo, rd1o, fnv, intv, VOp.dst, getRo, solEo, solo, solo1, allsz, List.all_cons, List.all_nil, Bool.and_true, beq_self_eq_true, List.length_cons, List.length_nil, Nat.zero_add, srcv, Nat.le_refl, List.take_succ_cons, List.take_zero, and_self, if_true, Nat.reduceAdd, Nat.reduceLT, eq_self, h0]
              · simp -dsimp only [↓SD, SP, ↓reduceIte, Nat.reduceEqDiff, ini, frz, rdAo, rd3o, rd2o, rdpo, rd1o, fnv, intv, VOp.dst, getRo, solEo, solo, solo1, allsz, List.all_cons, List.all_nil, Bool.and_true, beq_self_eq_true, List.length_cons, List.length_nil, Nat.zero_add, srcv, Nat.le_refl, List.take_succ_cons, List.take_zero, and_self, if_true, Nat.reduceAdd, Nat.reduceLT, eq_self, h1]
              · simp -dsimp only [↓SD, SP, ↓reduceIte, Nat.reduceEqDiff, ini, frz, rdAo, rd3o, rd2o, rdpo, rd1o, fnv, intv, VOp.dst, getRo, solEo, solo, solo1, allsz, List.all_cons, List.all_nil, Bool.and_true, beq_self_eq_true, List.length_cons, List.length_nil, Nat.zero_add, srcv, Nat.le_refl, List.take_succ_cons, List.take_zero, and_self, if_true, Nat.reduceAdd, Nat.reduceLT, eq_self, h5]
              · simp -dsimp only [↓SD, SP, ↓reduceIte, Nat.reduceEqDiff, ini, frz, rdAo, rd3o, rd2o, rdpo, rd1o, fnv, intv, VOp.dst, getRo, solEo, solo, solo1, allsz, List.all_cons, List.all_nil, Bool.and_true, beq_self_eq_true, List.length_cons, List.length_nil, Nat.zero_add, srcv, Nat.le_refl, List.take_succ_cons, List.take_zero, and_self, if_true, Nat.reduceAdd, Nat.reduceLT, eq_self, h7]
              · simp -dsimp only [↓SD, SP, ↓reduceIte, Nat.reduceEqDiff, ini, frz, rdAo, rd3o, rd2o, rdpo, rd1o, fnv, intv, VOp.dst, getRo, solEo, solo, solo1, allsz, List.all_cons, List.all_nil, Bool.and_true, beq_self_eq_true, List.length_cons, List.length_nil, Nat.zero_add, srcv, Nat.le_refl, List.take_succ_cons, List.take_zero, and_self, if_true, Nat.reduceAdd, Nat.reduceLT, eq_self]
            · rw [if_neg he] at hst
              by_cases hc : (lt xs ys i (k + 1) : Int) ≤ lt xs ys (i + 1) k
              · rw [Nat.max_eq_left (by omega)] at hst
                obtain ⟨H', s1, s2⟩ := fin _ hst
                simp -dsimp only [↓SD, SP, ↓reduceIte, Nat.reduceEqDiff, ini, frz, rdAo, rd3o, rd2o, rdpo, rd1o, fnv, intv, VOp.dst, getRo, solEo, solo, solo1, allsz, List.all_cons, List.all_nil, Bool.and_true, beq_self_eq_true, List.length_cons, List.length_nil, Nat.zero_add, srcv, Nat.le_refl, List.take_succ_cons, List.take_zero, and_self, if_true, Nat.reduceAdd, Nat.reduceLT, eq_self, h0, h1, h5, h7, h8, hk, x_strs _ _ hik, x_strs _ _ hkk, he, a1, a2, b2, b3, x1, x2, y1, y2, w1, w2, hc, s1, wrap64 ((k : Int) - 1) (by omega)]
                refine hK' k _ _ _ rfl ⟨by omega, ?_, ?_, ?_, ?_, ?_, s2⟩
                · simp -dsimp only [↓SD, SP, ↓reduceIte, Nat.reduceEqDiff, ini, frz, rdAo, rd3o, rd2o, rdpo, rd1o, fnv, intv, VOp.dst, getRo, solEo, solo, solo1, allsz, List.all_cons, List.all_nil, Bool.and_true, beq_self_eq_true, List.length_cons, List.length_nil, Nat.zero_add, srcv, Nat.le_refl, List.take_succ_cons, List.take_zero, and_self, if_true, Nat.reduceAdd, Nat.reduceLT, eq_self, h0]
                · simp -dsimp only [↓SD, SP, ↓reduceIte, Nat.reduceEqDiff, ini, frz, rdAo, rd3o, rd2o, rdpo, rd1o, fnv, intv, VOp.dst, getRo, solEo, solo, solo1, allsz, List.all_cons, List.all_nil, Bool.and_true, beq_self_eq_true, List.length_cons, List.length_nil, Nat.zero_add, srcv, Nat.le_refl, List.take_succ_cons, List.take_zero, and_self, if_true, Nat.reduceAdd, Nat.reduceLT, eq_self, h1]
                · simp -dsimp only [↓SD, SP, ↓reduceIte, Nat.reduceEqDiff, ini, frz, rdAo, rd3o, rd2o, rdpo, rd1o, fnv, intv, VOp.dst, getRo, solEo, solo, solo1, allsz, List.all_cons, List.all_nil, Bool.and_true, beq_self_eq_true, List.length_cons, List.length_nil, Nat.zero_add, srcv, Nat.le_refl, List.take_succ_cons, List.take_zero, and_self, if_true, Nat.reduceAdd, Nat.reduceLT, eq_self, h5]
                · simp -dsimp only [↓SD, SP, ↓reduceIte, Nat.reduceEqDiff, ini, frz, rdAo, rd3o, rd2o, rdpo, rd1o, fnv, intv, VOp.dst, getRo, solEo, solo, solo1, allsz, List.all_cons, List.all_nil, Bool.and_true, beq_self_eq_true, List.length_cons, List.length_nil, Nat.zero_add, srcv, Nat.le_refl, List.take_succ_cons, List.take_zero, and_self, if_true, Nat.reduceAdd, Nat.reduceLT, eq_self, h7]
                · simp -dsimp only [↓SD, SP, ↓reduceIte, Nat.reduceEqDiff, ini, frz, rdAo, rd3o, rd2o, rdpo, rd1o, fnv, intv, VOp.dst, getRo, solEo, solo, solo1, allsz, List.all_cons, List.all_nil, Bool.and_true, beq_self_eq_true, List.length_cons, List.length_nil, Nat.zero_add, srcv, Nat.le_refl, List.take_succ_cons, List.take_zero, and_self, if_true, Nat.reduceAdd, Nat.reduceLT, eq_self]
              · rw [Nat.max_eq_right (by omega)] at hst
                obtain ⟨H', s1, s2⟩ := fin _ hst
                simp -dsimp only [↓SD, SP, ↓reduceIte, Nat.reduceEqDiff, ini, frz, rdAo, rd3o, rd2o, rdpo, rd1o, fnv, intv, VOp.dst, getRo, solEo, solo, solo1, allsz, List.all_cons, List.all_nil, Bool.and_true, beq_self_eq_true, List.length_cons, List.length_nil, Nat.zero_add, srcv, Nat.le_refl, List.take_succ_cons, List.take_zero, and_self, if_true, Nat.reduceAdd, Nat.reduceLT, eq_self, h0, h1, h5, h7, h8, hk, x_strs _ _ hik, x_strs _ _ hkk, he, a1, a2, b2, b3, x1, x2, y1, y2, w1, w2, hc, s1, wrap64 ((k : Int) - 1) (by omega)]
                refine hK' k _ _ _ rfl ⟨by omega, ?_, ?_, ?_, ?_, ?_, s2⟩
                · simp -dsimp only [↓SD, SP, ↓reduceIte, Nat.reduceEqDiff, ini, frz, rdAo, rd3o, rd2o, rdpo, rd1o, fnv, intv, VOp.dst, getRo, solEo, solo, solo1, allsz, List.all_cons, List.all_nil, Bool.and_true, beq_self_eq_true, List.length_cons, List.length_nil, Nat.zero_add, srcv, Nat.le_refl, List.take_succ_cons, List.take_zero, and_self, if_true, Nat.reduceAdd, Nat.reduceLT, eq_self, h0]
                · simp -dsimp only [↓SD, SP, ↓reduceIte, Nat.reduceEqDiff, ini, frz, rdAo, rd3o, rd2o, rdpo, rd1o, fnv, intv, VOp.dst, getRo, solEo, solo, solo1, allsz, List.all_cons, List.all_nil, Bool.and_true, beq_self_eq_true, List.length_cons, List.length_nil, Nat.zero_add, srcv, Nat.le_refl, List.take_succ_cons, List.take_zero, and_self, if_true, Nat.reduceAdd, Nat.reduceLT, eq_self, h1]
                · simp -dsimp only [↓SD, SP, ↓reduceIte, Nat.reduceEqDiff, ini, frz, rdAo, rd3o, rd2o, rdpo, rd1o, fnv, intv, VOp.dst, getRo, solEo, solo, solo1, allsz, List.all_cons, List.all_nil, Bool.and_true, beq_self_eq_true, List.length_cons, List.length_nil, Nat.zero_add, srcv, Nat.le_refl, List.take_succ_cons, List.take_zero, and_self, if_true, Nat.reduceAdd, Nat.reduceLT, eq_self, h5]
                · simp -dsimp only [↓SD, SP, ↓reduceIte, Nat.reduceEqDiff, ini, frz, rdAo, rd3o, rd2o, rdpo, rd1o, fnv, intv, VOp.dst, getRo, solEo, solo, solo1, allsz, List.all_cons, List.all_nil, Bool.and_true, beq_self_eq_true, List.length_cons, List.length_nil, Nat.zero_add, srcv, Nat.le_refl, List.take_succ_cons, List.take_zero, and_self, if_true, Nat.reduceAdd, Nat.reduceLT, eq_self, h7]
                · simp -dsimp only [↓SD, SP, ↓reduceIte, Nat.reduceEqDiff, ini, frz, rdAo, rd3o, rd2o, rdpo, rd1o, fnv, intv, VOp.dst, getRo, solEo, solo, solo1, allsz, List.all_cons, List.all_nil, Bool.and_true, beq_self_eq_true, List.length_cons, List.length_nil, Nat.zero_add, srcv, Nat.le_refl, List.take_succ_cons, List.take_zero, and_self, if_true, Nat.reduceAdd, Nat.reduceLT, eq_self]
          · obtain rfl : p = 0 := by omega
            simp -dsimp only [↓SD, SP, ↓reduceIte, Nat.reduceEqDiff, ini, frz, rdAo, rd3o, rd2o, rdpo, rd1o, fnv, intv, VOp.dst, getRo, solEo, solo, solo1, allsz, List.all_cons, List.all_nil, Bool.and_true, beq_self_eq_true, List.length_cons, List.length_nil, Nat.zero_add, srcv, Nat.le_refl, List.take_succ_cons, List.take_zero, and_self, if_true, Nat.reduceAdd, Nat.reduceLT, eq_self, h8, hk]
            refine hQ' _ _ _ _ ⟨rfl, h0, h1, h5, h7, hT.ext fun j q _ _ => ?_⟩
            by_cases hij : i ≤ j
            · rw [if_pos hij, if_pos (by omega)]
            · rw [if_neg hij, if_neg (by omega)]
      · obtain rfl : m = 0 := by omega
        simp -dsimp only [↓SD, SP, ↓reduceIte, Nat.reduceEqDiff, ini, frz, rdAo, rd3o, rd2o, rdpo, rd1o, fnv, intv, VOp.dst, getRo, solEo, solo, solo1, allsz, List.all_cons, List.all_nil, Bool.and_true, beq_self_eq_true, List.length_cons, List.length_nil, Nat.zero_add, srcv, Nat.le_refl, List.take_succ_cons, List.take_zero, and_self, if_true, Nat.reduceAdd, Nat.reduceLT, eq_self, h7, hi]
        exact hQ _ _ _ _ ⟨rfl, h5, hT.ext fun j q _ _ => if_pos (Nat.zero_le _)⟩
  · rintro m E H n Q K ⟨i, bt, bs, hm, h0, h1, h5, h6, hT, hlt⟩ hQ hK
    by_cases hi : (i : Int) ≤ xs.length
    · simp -dsimp only [↓SD, SP, ↓reduceIte, Nat.reduceEqDiff, ini, frz, rdAo, rd3o, rd2o, rdpo, rd1o, fnv, intv, VOp.dst, getRo, solEo, solo, solo1, allsz, List.all_cons, List.all_nil, Bool.and_true, beq_self_eq_true, List.length_cons, List.length_nil, Nat.zero_add, srcv, Nat.le_refl, List.take_succ_cons, List.take_zero, and_self, if_true, Nat.reduceAdd, Nat.reduceLT, eq_self, h0, h1, h5, h6, l_strs, hi, wrap64 ((ys.length : Int) + 1) (by omega)]
      refine mk_key (fun b => b + 1000) (by omega) fun b hb => ?_
      simp -dsimp only [↓SD, SP, ↓reduceIte, Nat.reduceEqDiff, ini, frz, rdAo, rd3o, rd2o, rdpo, rd1o, fnv, intv, VOp.dst, getRo, solEo, solo, solo1, allsz, List.all_cons, List.all_nil, Bool.and_true, beq_self_eq_true, List.length_cons, List.length_nil, Nat.zero_add, srcv, Nat.le_refl, List.take_succ_cons, List.take_zero, and_self, if_true, Nat.reduceAdd, Nat.reduceLT, eq_self, show ((ys.length : Int) + 1).toNat = ys.length + 1 by omega]
      refine bal_mk fun b2 hb2 => ?_
      obtain ⟨ex, ht⟩ := hT.top
      simp -dsimp only [↓SD, SP, ↓reduceIte, Nat.reduceEqDiff, ini, frz, rdAo, rd3o, rd2o, rdpo, rd1o, fnv, intv, VOp.dst, getRo, solEo, solo, solo1, allsz, List.all_cons, List.all_nil, Bool.and_true, beq_self_eq_true, List.length_cons, List.length_nil, Nat.zero_add, srcv, Nat.le_refl, List.take_succ_cons, List.take_zero, and_self, if_true, Nat.reduceAdd, Nat.reduceLT, eq_self, show ((ys.length : Int) + 1).toNat = ys.length + 1 by omega, h5]
      refine app_own (xs := (List.range i).map (fun j => AV.own (bs j + 1000) (bs j) 1 (ys.length + 1))) (row := false) (ex := ex) ?_ (by simp) (by simp) (by simp; omega) (by simp; omega) fun b' n' g1 g2 => ?_
      · rw [updH_at, if_neg (by omega), updH_at, if_neg (by omega), ht]
      simp -dsimp only [↓SD, SP, ↓reduceIte, Nat.reduceEqDiff, ini, frz, rdAo, rd3o, rd2o, rdpo, rd1o, fnv, intv, VOp.dst, getRo, solEo, solo, solo1, allsz, List.all_cons, List.all_nil, Bool.and_true, beq_self_eq_true, List.length_cons, List.length_nil, Nat.zero_add, srcv, Nat.le_refl, List.take_succ_cons, List.take_zero, and_self, if_true, Nat.reduceAdd, Nat.reduceLT, eq_self, h6, wrap64 ((i : Int) + 1) (by omega)]
      refine hK (m - 1) _ _ _ (by omega) ⟨i + 1, b', fun j => if j = i then b else bs j, by omega, ?_, ?_, ?_, ?_, ⟨⟨false, ?_⟩, fun j hj => ?_, fun j j' hj hj' he => ?_⟩, fun j hj => ?_⟩
      · simp -dsimp only [↓SD, SP, ↓reduceIte, Nat.reduceEqDiff, ini, frz, rdAo, rd3o, rd2o, rdpo, rd1o, fnv, intv, VOp.dst, getRo, solEo, solo, solo1, allsz, List.all_cons, List.all_nil, Bool.and_true, beq_self_eq_true, List.length_cons, List.length_nil, Nat.zero_add, srcv, Nat.le_refl, List.take_succ_cons, List.take_zero, and_self, if_true, Nat.reduceAdd, Nat.reduceLT, eq_self, h0]
      · simp -dsimp only [↓SD, SP, ↓reduceIte, Nat.reduceEqDiff, ini, frz, rdAo, rd3o, rd2o, rdpo, rd1o, fnv, intv, VOp.dst, getRo, solEo, solo, solo1, allsz, List.all_cons, List.all_nil, Bool.and_true, beq_self_eq_true, List.length_cons, List.length_nil, Nat.zero_add, srcv, Nat.le_refl, List.take_succ_cons, List.take_zero, and_self, if_true, Nat.reduceAdd, Nat.reduceLT, eq_self, h1]
      · simp -dsimp only [↓SD, SP, ↓reduceIte, Nat.reduceEqDiff, ini, frz, rdAo, rd3o, rd2o, rdpo, rd1o, fnv, intv, VOp.dst, getRo, solEo, solo, solo1, allsz, List.all_cons, List.all_nil, Bool.and_true, beq_self_eq_true, List.length_cons, List.length_nil, Nat.zero_add, srcv, Nat.le_refl, List.take_succ_cons, List.take_zero, and_self, if_true, Nat.reduceAdd, Nat.reduceLT, eq_self]
      · simp -dsimp only [↓SD, SP, ↓reduceIte, Nat.reduceEqDiff, ini, frz, rdAo, rd3o, rd2o, rdpo, rd1o, fnv, intv, VOp.dst, getRo, solEo, solo, solo1, allsz, List.all_cons, List.all_nil, Bool.and_true, beq_self_eq_true, List.length_cons, List.length_nil, Nat.zero_add, srcv, Nat.le_refl, List.take_succ_cons, List.take_zero, and_self, if_true, Nat.reduceAdd, Nat.reduceLT, eq_self, iv, Int.natCast_add, Int.natCast_one]
      · rw [updH_at, if_pos rfl, List.range_succ, List.map_append]
        congr 3
        · exact List.map_congr_left fun j hj => by simp only [if_neg (Nat.ne_of_lt (List.mem_range.1 hj))]
        · simp
      · simp only [updH_at]
        rw [if_neg (by omega), if_neg (by omega)]
        by_cases hji : j = i
        · subst hji
          rw [if_pos rfl, if_pos (by rfl), show ((ys.length : Int) + 1).toNat = ys.length + 1 by omega, rep_tab]
        · have := hlt j (by omega)
          rw [if_neg hji, if_neg (by omega), hT.row j (by omega)]
      · by_cases hji : j = i
        · by_cases hji' : j' = i
          · rw [hji, hji']
          · have := hlt j' (by omega)
            simp only [if_pos hji, if_neg hji'] at he
            omega
        · by_cases hji' : j' = i
          · have := hlt j (by omega)
            simp only [if_neg hji, if_pos hji'] at he
            omega
          · simp only [if_neg hji, if_neg hji'] at he
            exact hT.inj j j' (by omega) (by omega) he
      · by_cases hji : j = i
        · simp only [if_pos hji]
          omega
        · have := hlt j (by omega)
          simp only [if_neg hji]
          omega
    · simp -dsimp only [↓SD, SP, ↓reduceIte, Nat.reduceEqDiff, ini, frz, rdAo, rd3o, rd2o, rdpo, rd1o, fnv, intv, VOp.dst, getRo, solEo, solo, solo1, allsz, List.all_cons, List.all_nil, Bool.and_true, beq_self_eq_true, List.length_cons, List.length_nil, Nat.zero_add, srcv, Nat.le_refl, List.take_succ_cons, List.take_zero, and_self, if_true, Nat.reduceAdd, Nat.reduceLT, eq_self, h0, h6, l_strs, hi]
      obtain rfl : i = xs.length + 1 := by omega
      exact hQ _ _ _ _ ⟨rfl, h0, h1, bt, bs, h5, hT⟩
end Go.AVM
