/- Stores and appends. -/
import Derived.Test.YtnanbjnadkoekaaDoorVD3
namespace Go.AVM
set_option linter.unusedSimpArgs false
open Go.RowKit
set_option linter.unusedVariables false
section
variable {P : Program} {w0 w : World} {S : Sg} {nt n : Nat} {E : Env} {H : Hp} {a : Act} {o : Oper}

theorem solid_or {row : Bool} {x : AV} {v : Value} {K : AV → Hp → Prop} (h : SR w0 S nt E H n a w) (hu : RV w (Stb w0 S H w) x v) (hs : (if row = true then sol H x else fun C => C x H) K) :
    ∃ x' H', K x' H' ∧ SR w0 S nt E H' n a w ∧ RV w (Stb w0 S H' w) x' v := by
  cases row with
  | true =>
    obtain ⟨x', H', h1, h2, _, h4, _⟩ := sol_ok h hu hs
    exact ⟨x', H', h1, h2, h4⟩
  | false => exact ⟨x, H, hs, h, hu⟩

theorem solid_or1 {row : Bool} {x : AV} {v : Value} {K : AV → Hp → Prop} (h : SR w0 S nt E H n a w) (hu : RV w (Stb w0 S H w) x v) (hna : x.isAgg = false) (hz : x.sz = 1) (hs : (if row = true then sol H x else fun C => C x H) K) :
    ∃ x' H', K x' H' ∧ SR w0 S nt E H' n a w ∧ RC w (Stb w0 S H' w) x' [v] ∧ x'.isAgg = false ∧ x'.sz = 1 := by
  cases row with
  | true =>
    have hs' : sol1 H x K := by cases x <;> first | exact hs | (simp [AV.isAgg] at hna)
    obtain ⟨x', H', h1, h2, _, h4, h5, h6⟩ := sol1_ok h hu hs'
    exact ⟨x', H', h1, h2, h4, h5, h6⟩
  | false => exact ⟨x, H, hs, h, hu.cell hna (by omega), hna, hz⟩

theorem list_set_get (xs : List AV) (i j : Nat) (v x : AV) (h : (xs.set i v)[j]? = some x) : (j = i ∧ x = v) ∨ (j ≠ i ∧ xs[j]? = some x) := by
  rw [List.getElem?_set] at h
  by_cases hij : i = j
  · rw [if_pos hij] at h
    split at h
    · exact .inl ⟨hij.symm, (Option.some.inj h).symm⟩
    · cases h
  · rw [if_neg hij] at h
    exact .inr ⟨fun e => hij e.symm, h⟩

theorem a_st {y z : Opd} {sz : Option Nat} {K : Env → Hp → Nat → Prop} {L : Laws} (h : SR w0 S nt E H n a w) (hm : mOp P nt o (.st y z sz) = true) (hv : va L E H n (.st y z sz) K) : Goes P w0 S nt o a w false K := by
  simp only [mOp, VOp.dst, Bool.and_eq_true, beq_iff_eq] at hm
  obtain ⟨hdst, h3⟩ := hm
  obtain ⟨t, x1, x2, hsz, hx, hy, hop⟩ : ∃ t x1 x2, szT P t = some (sz.getD 1) ∧ mOpd nt x1 y = true ∧ mOpd nt x2 z = true ∧ o.op = .store t x1 x2 := by
    generalize o.op = op at *
    cases op <;> first | (simp [mOp2, VOp.base, mOp1] at h3; done) | skip
    simp only [mOp2, VOp.base, mOp1, Bool.and_eq_true] at h3
    obtain ⟨⟨h4, h5⟩, h6⟩ := h3
    refine ⟨_, _, _, ?_, h5, h6, rfl⟩
    cases sz <;> simpa using h4
  have hvx := h.rel.ev hx
  have hvy := h.rel.ev hy
  simp only [va] at hv
  generalize hey : ev E y = vy at *
  cases vy <;> first | (exact hv.elim) | skip
  rename_i d b s i f
  obtain ⟨hfz, hzsz, k0, hk0, hv⟩ := hv
  cases f with
  | none =>
    obtain ⟨v', H', ⟨k, hk, rfl, rfl, hf, x, hxi, hv⟩, hsr, hrv⟩ := solid_or h hvy hv
    have hav := hvx.optr_inv
    obtain ⟨hlow, hpos, c, e, hh, hlen, _, hall⟩ := hsr.blk d k hk
    have hil : i < k.xs.length := (List.getElem?_eq_some_iff.1 hxi).1
    have hik : i * k.s + k.s ≤ c.size := by
      have : (i + 1) * k.s ≤ k.xs.length * k.s := Nat.mul_le_mul_right _ hil
      rw [Nat.add_mul, Nat.one_mul] at this
      omega
    obtain ⟨csx, hcl, hrcx, hccx⟩ := hall i x hxi
    obtain ⟨hvs, hK⟩ := hv
    obtain ⟨hrc, hcsz⟩ := hrv.szpos hvs hpos
    have hsz' : szT P t = some (a.eval x2).cells.size := by
      rw [hsz, hcsz]
      congr 1
      have h0 := hvy.cells
      cases sz with
      | none =>
        simp only [Option.getD_none]
        have := (h0 (by rw [hzsz.2]; omega)).2
        rw [hzsz.2] at this
        omega
      | some m =>
        obtain ⟨fs, hfs, hm'⟩ := hzsz
        simp only [Option.getD_some]
        by_cases hm0 : m = 0
        · exfalso
          rw [hfs] at hvy
          obtain ⟨cs, hcs, hl, _⟩ := hvy.agg_inv
          rw [hcs] at hcsz
          simp [Value.cells] at hcsz
          omega
        · have := (h0 (by rw [hfs]; show fs.length ≠ 0; omega)).2
          rw [hfs] at this
          simp only [AV.sz] at this
          omega
    have hrun := store_run (P := P) (off := i * k.s) hsz' hh (by rw [hcsz]; exact hik) hrc.one
    have hw := hsr.write (xs' := k.xs.set i v') (ex' := k.ex) (fun he => ⟨he, by simp⟩) hk hf hh (c' := (c.toList.take (i * k.s) ++ (a.eval x2).cells.toList ++ c.toList.drop (i * k.s + (a.eval x2).cells.size)).toArray) (by simp; omega) (by simpa using hlen) (fun j x' hj => by
      have hseg := fun q => seg_get c.toList (a.eval x2).cells.toList (i * k.s) q (by simp; omega)
      simp only [Array.length_toList] at hseg
      rcases list_set_get _ _ _ _ _ hj with ⟨rfl, rfl⟩ | ⟨hne, hj⟩
      · refine ⟨_, by simpa using hcsz, hrc, fun q u hq => ?_⟩
        have hql := (List.getElem?_eq_some_iff.1 hq).1
        simp only [Array.length_toList] at hql
        rw [List.getElem?_toArray, hseg, if_pos (by omega)]
        rw [show j * k.s + q - j * k.s = q by omega]
        exact hq
      · obtain ⟨cs, h4, h5, h6⟩ := hall j x' hj
        refine ⟨cs, h4, h5, fun q u hq => ?_⟩
        have hql := (List.getElem?_eq_some_iff.1 hq).1
        rw [List.getElem?_toArray, hseg, if_neg ?_]
        · simpa using h6 q u hq
        · rintro ⟨g1, g2⟩
          rw [hcsz] at g2
          rcases Nat.lt_or_gt_of_ne hne with hlt | hgt
          · have : (j + 1) * k.s ≤ i * k.s := Nat.mul_le_mul_right _ hlt
            rw [Nat.add_mul, Nat.one_mul] at this
            omega
          · have : (i + 1) * k.s ≤ j * k.s := Nat.mul_le_mul_right _ hgt
            rw [Nat.add_mul, Nat.one_mul] at this
            omega)
    refine Goes.skip hdst ?_ hw hK (by simp)
    simp only [execOp, hop, hav, Sem.run_bind, Option.getD_none, Nat.add_zero, hrun]
    rfl
  | some q =>
    obtain rfl := hfz rfl
    obtain ⟨v', H', ⟨k, hk, rfl, rfl, hf, x, hxi, hv⟩, hsr, hrc, hva, hvz⟩ := solid_or1 h hvy hzsz.1 hzsz.2 hv
    have hav := hvx.optr_inv
    obtain ⟨hlow, hpos, c, e, hh, hlen, _, hall⟩ := hsr.blk d k hk
    have hil : i < k.xs.length := (List.getElem?_eq_some_iff.1 hxi).1
    have hik : i * k.s + k.s ≤ c.size := by
      have : (i + 1) * k.s ≤ k.xs.length * k.s := Nat.mul_le_mul_right _ hil
      rw [Nat.add_mul, Nat.one_mul] at this
      omega
    obtain ⟨csx, hcl, hrcx, hccx⟩ := hall i x hxi
    obtain ⟨fs, rfl, hq, hfl, hK⟩ := hv
    obtain ⟨u, hu', hu1, hu2⟩ := hrc.len1 hvz
    obtain rfl : a.eval x2 = u := by simpa using hu'
    have huc : (a.eval x2).cells = #[a.eval x2] := by cases hq : a.eval x2 <;> simp_all [Value.cells]
    have hrun := store_run (P := P) (off := i * k.s + q) (v := a.eval x2) (by rw [hsz, huc]; rfl) hh (by rw [huc]; simp; omega) (by rw [huc]; simpa using hu1)
    rw [huc] at hrun
    cases hrcx with
    | agg _ _ hl hn hrcf =>
    have hw := hsr.write (xs' := k.xs.set i (.agg (fs.set q v'))) (ex' := k.ex) (fun he => ⟨he, by simp⟩) hk hf hh (c' := (c.toList.take (i * k.s + q) ++ [a.eval x2] ++ c.toList.drop (i * k.s + q + 1)).toArray) (by simp; omega) (by simpa using hlen) (fun j x' hj => by
      have hseg := fun q' => seg_get c.toList [a.eval x2] (i * k.s + q) q' (by simp; omega)
      simp only [List.length_cons, List.length_nil, Nat.zero_add] at hseg
      rcases list_set_get _ _ _ _ _ hj with ⟨rfl, rfl⟩ | ⟨hne, hj⟩
      · refine ⟨csx.set q (a.eval x2), by simpa using hcl, RC.agg _ _ (by simpa using hl) (fun f hf' => ?_) (fun i' f c' hf' hc' => ?_), fun q' u' hq' => ?_⟩
        · rcases List.mem_or_eq_of_mem_set hf' with h' | rfl
          · exact hn f h'
          · exact hva
        · rcases list_set_get _ _ _ _ _ hf' with ⟨rfl, rfl⟩ | ⟨hne', hf'⟩
          · have : i' < csx.length := by omega
            rw [List.getElem?_set_self this] at hc'
            obtain rfl := Option.some.inj hc'
            exact hrc
          · rw [List.getElem?_set_ne (fun e => hne' e.symm)] at hc'
            exact hrcf i' f c' hf' hc'
        · have hql := (List.getElem?_eq_some_iff.1 hq').1
          rw [List.length_set] at hql
          rw [List.getElem?_toArray, hseg]
          by_cases e' : q' = q
          · subst e'
            rw [List.getElem?_set_self (by omega)] at hq'
            rw [if_pos (by omega), show j * k.s + q' - (j * k.s + q') = 0 by omega]
            simpa using hq'
          · rw [if_neg (by omega)]
            rw [List.getElem?_set_ne (fun e => e' e.symm)] at hq'
            simpa using hccx q' u' hq'
      · obtain ⟨cs, h4, h5, h6⟩ := hall j x' hj
        refine ⟨cs, h4, h5, fun q' u' hq' => ?_⟩
        have hql := (List.getElem?_eq_some_iff.1 hq').1
        rw [List.getElem?_toArray, hseg, if_neg ?_]
        · simpa using h6 q' u' hq'
        · rintro ⟨g1, g2⟩
          rcases Nat.lt_or_gt_of_ne hne with hlt | hgt
          · have : (j + 1) * k.s ≤ i * k.s := Nat.mul_le_mul_right _ hlt
            rw [Nat.add_mul, Nat.one_mul] at this
            omega
          · have : (i + 1) * k.s ≤ j * k.s := Nat.mul_le_mul_right _ hgt
            rw [Nat.add_mul, Nat.one_mul] at this
            omega)
    refine Goes.skip hdst ?_ hw hK (by simp)
    simp only [execOp, hop, hav, Sem.run_bind, Option.getD_some, hrun]
    rfl
end
end Go.AVM
