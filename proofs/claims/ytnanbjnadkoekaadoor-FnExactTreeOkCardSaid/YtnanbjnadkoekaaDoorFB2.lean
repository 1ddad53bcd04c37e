/- spec.l1Table. -/
import Derived.Test.YtnanbjnadkoekaaDoorFB1
set_option linter.unusedSimpArgs false
set_option linter.unusedVariables false
namespace Go.AVM
theorem app_own {n d s bytes : Nat} {fr kp : Bool} {E : Env} {H : Hp} {d' b len : Nat} {xs ys : List AV} {row ex : Bool} {K : Env → Hp → Nat → Prop} (hH : H d' = some ⟨b, s, xs, false, row, ex⟩) (hfr : fr = true → ex = true) (hl : len = xs.length)
    (hb : (len + ys.length) * bytes ≤ 140737488355328) (hb2 : len + ys.length ≤ 140737488355328)
    (hk : ∀ b' n', n ≤ n' → (b' = b ∨ n ≤ b' ∧ b' < n') → K (upd E d (.own d' b' s (len + ys.length))) (updH H d' (some ⟨b', s, xs ++ ys, false, row, false⟩)) n') : bap n d s bytes fr kp E H (.own d' b s len) ys K :=
  ⟨_, hH, rfl, rfl, rfl, rfl, hfr, hl, hb, hb2, hk⟩
theorem bal_mk {n : Nat} {K : Nat → Prop} (h : ∀ b, n ≤ b → K b) : ball n K := h
theorem Fm.id {H : Hp} : ∀ xs : List AV, Fm H xs xs []
  | [] => .nil
  | x :: xs => .same x xs xs [] (Fm.id xs)
structure TS (H : Hp) (bt : Nat) (bs : Nat → Nat) (f : Nat → Nat → Nat) (N M : Nat) : Prop where
  top : ∃ ex, H 9 = some ⟨bt, 1, (List.range N).map (fun j => AV.own (bs j + 1000) (bs j) 1 M), false, false, ex⟩
  row : ∀ j, j < N → H (bs j + 1000) = some ⟨bs j, 1, (tab (f j) M).map iv, false, true, true⟩
  inj : ∀ j j', j < N → j' < N → bs j = bs j' → j = j'
section
variable {H : Hp} {bt : Nat} {bs : Nat → Nat} {f : Nat → Nat → Nat} {N M : Nat}
theorem TS.ld1 (h : TS H bt bs f N M) {i : Nat} (hi : i < N) : ldv H none (.optr 9 bt 1 i none) = some (.own (bs i + 1000) (bs i) 1 M) := by
  obtain ⟨ex, ht⟩ := h.top
  have := ld_map (fun j => AV.own (bs j + 1000) (bs j) 1 M) ht (i := i) (by simpa using hi) rfl rfl
  rw [this]
  simp
theorem TS.ld2 (h : TS H bt bs f N M) {i k : Nat} (hi : i < N) (hk : k < M) : ldv H none (.optr (bs i + 1000) (bs i) 1 k none) = some (iv (f i k)) := by
  have := ld_int (h.row i hi) (i := k) (by rw [tab_len]; exact hk)
  rwa [tab_get] at this
theorem TS.st (h : TS H bt bs f N M) {i k x : Nat} (hi : i < N) (hk : k < M) : ∃ H', stv H none (.int .i64 x) (.optr (bs i + 1000) (bs i) 1 k none) = some H' ∧ TS H' bt bs (fun j q => if j = i ∧ q = k then x else f j q) N M := by
  refine ⟨_, st_int (h.row i hi) (by rw [tab_len]; exact hk), ?_, fun j hj => ?_, h.inj⟩
  · obtain ⟨ex, ht⟩ := h.top
    refine ⟨ex, ?_⟩
    rw [updH_at, if_neg (by omega)]
    exact ht
  · rw [updH_at]
    by_cases hji : bs j + 1000 = bs i + 1000
    · obtain rfl := h.inj j i hj hi (by omega)
      rw [if_pos rfl]
      congr 3
      refine tab_set _ _ _ _ _ (by simp) fun q _ hq => by simp [hq]
    · rw [if_neg hji]
      have hne : j ≠ i := fun e => hji (by rw [e])
      rw [h.row j hj]
      congr 3
      exact tab_ext _ _ _ fun q _ => by simp [hne]
theorem TS.ext (h : TS H bt bs f N M) {g : Nat → Nat → Nat} (hg : ∀ j q, j < N → q < M → f j q = g j q) : TS H bt bs g N M :=
  ⟨h.top, fun j hj => by rw [h.row j hj, tab_ext _ _ _ fun q hq => hg j q hj hq], h.inj⟩
def rowsV (bs : Nat → Nat) (f : Nat → Nat → Nat) (N M : Nat) : List AV := (List.range N).map fun j => .lsl (some (bs j, 1)) M ((tab (f j) M).map iv)
theorem TS.fm (h : TS H bt bs f N M) : ∃ ks, Fm H [.own 9 bt 1 N] [.lsl (some (bt, 1)) N (rowsV bs f N M)] ks := by
  obtain ⟨ex, ht⟩ := h.top
  have key : ∀ js : List Nat, (∀ j ∈ js, j < N) → ∃ ks, Fm H (js.map fun j => AV.own (bs j + 1000) (bs j) 1 M) (js.map fun j => .lsl (some (bs j, 1)) M ((tab (f j) M).map iv)) ks := by
    intro js
    induction js with
    | nil => exact fun _ => ⟨[], .nil⟩
    | cons j js ih =>
      intro hj
      obtain ⟨ks, hk⟩ := ih fun q hq => hj q (List.mem_cons_of_mem _ hq)
      exact ⟨_, .own _ _ _ _ _ _ _ _ [] ks (h.row j (hj j List.mem_cons_self)) rfl rfl (by simp [tab]) (Fm.id _) hk⟩
  obtain ⟨ks, hk⟩ := key (List.range N) fun j hj => List.mem_range.1 hj
  exact ⟨_, .own 9 bt 1 N _ _ [] [] ks [] ht rfl rfl (by simp) hk .nil⟩
end

end Go.AVM
