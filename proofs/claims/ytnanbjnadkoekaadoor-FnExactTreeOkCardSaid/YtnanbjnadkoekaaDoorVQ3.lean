/- The quiet operations, the rest: slices of slices, structs built, closures. -/
import Derived.Test.YtnanbjnadkoekaaDoorVQ2
namespace Go.AVM
set_option linter.unusedSimpArgs false
open Go.RowKit
set_option linter.unusedVariables false
section
variable {P : Program} {w : World} {T base : Nat → Prop} {nt : Nat} {E : Env} {H : Hp} {a : Act} {K : Nat → AV → Prop} {o : Oper}

theorem Rel.evo (hr : Rel w T nt E a) {x : Option Operand} {y : Option Opd} (h : mOpdo nt x y = true) : (x = none ∧ y = none) ∨ ∃ x' y', x = some x' ∧ y = some y' ∧ RV w T (Go.AVM.ev E y') (a.eval x') := by
  cases x <;> cases y <;> simp [mOpdo] at h
  · exact .inl ⟨rfl, rfl⟩
  · exact .inr ⟨_, _, rfl, rfl, hr.ev h⟩

theorem run_cut {t e : TypeId} {ti : TypeInfo} (he : P.underlying t = some (.slice e)) (hi : P.info? e = some ti) (ad : Option Addr) (len cap : Nat) (l h : Option Value) (lo hi' : Nat)
    (hl : (l = none ∧ lo = 0) ∨ ∃ k, l = some (.int k lo)) (hh : (h = none ∧ hi' = len) ∨ ∃ k, h = some (.int k hi')) (h1 : lo ≤ hi') (h2 : hi' ≤ cap) (w' : World) :
    (Instr.sliceAt t (.slice ad len cap) l h none).run P w' = .ok (.slice (if cap = lo then ad else ad.map (·.add (lo * ti.size))) (hi' - lo) (cap - lo)) w' := by
  have hlo : ((lo : Nat) : Int) ≤ (hi' : Nat) := by omega
  have hhi : ((hi' : Nat) : Int) ≤ (cap : Nat) := by omega
  rcases hl with ⟨rfl, rfl⟩ | ⟨k, rfl⟩ <;> rcases hh with ⟨rfl, rfl⟩ | ⟨k', rfl⟩ <;>
    simp [Instr.sliceAt, Instr.slice, run_underlying he, Instr.sliceBounds, Instr.sliceBound, asIntOf, sizeOf, typeInfo, hi, h1, h2]

theorem run_cut_str {t : TypeId} (he : P.underlying t = some .string) (s : ByteArray) (l h : Option Value) (lo hi' : Nat)
    (hl : (l = none ∧ lo = 0) ∨ ∃ k, l = some (.int k lo)) (hh : (h = none ∧ hi' = s.size) ∨ ∃ k, h = some (.int k hi')) (h1 : lo ≤ hi') (h2 : hi' ≤ s.size) (w' : World) :
    (Instr.sliceAt t (.string s) l h none).run P w' = .ok (.string (s.extract lo hi')) w' := by
  have hlo : ((lo : Nat) : Int) ≤ (hi' : Nat) := by omega
  have hhi : ((hi' : Nat) : Int) ≤ (s.size : Nat) := by omega
  rcases hl with ⟨rfl, rfl⟩ | ⟨k, rfl⟩ <;> rcases hh with ⟨rfl, rfl⟩ | ⟨k', rfl⟩ <;>
    simp [Instr.sliceAt, Instr.slice, run_underlying he, Instr.sliceBounds, Instr.sliceBound, asIntOf, h1, h2]

/-- a window of a row that is read: from place l on -/
theorem rv_drop {t : Option (Nat × Nat)} {len s l h : Nat} {xs : List AV} {v : Value} (hv : RV w T (.lsl t len xs) v) (hs : ∀ y, xs.head? = some y → y.sz = s) (hs0 : 0 < s) (h1 : l ≤ h) (h2 : h ≤ xs.length) :
    ∃ ad cap, v = .slice ad len cap ∧ h ≤ cap ∧ RV w T (.lsl none (h - l) (xs.drop l)) (.slice (if cap = l then ad else ad.map (·.add (l * s))) (h - l) (cap - l)) := by
  obtain ⟨ad, cap, s', cells, rfl, hlc, hll, hxc, hmx, hne, _, hrc⟩ := hv.lsl_inv
  refine ⟨ad, cap, rfl, by omega, ?_⟩
  refine RC.lsl none (h - l) (cap - l) s' (xs.drop l) _ (fun i => cells (l + i)) (by omega) (by simp; omega) (by simp; omega) (by omega) (fun hd => ?_) (by simp) (fun i x hi => ?_)
  · have hlt : l < xs.length := by
      have := List.length_pos_iff.2 hd
      simp at this
      omega
    have hne' : xs ≠ [] := by rintro rfl; simp at hlt
    obtain ⟨g, off, rfl, hT, hc⟩ := hne hne'
    have hss : s' = s := by
      obtain ⟨y, ys, rfl⟩ := List.exists_cons_of_ne_nil hne'
      have hy := hs y rfl
      obtain ⟨hcl, _⟩ := hc 0 y rfl
      have := (hrc 0 y rfl).len (by omega)
      omega
    subst hss
    refine ⟨g, off + l * s', ?_, hT, fun i x hi => ?_⟩
    · rw [if_neg (by omega)]
      simp [add_none]
    · rw [List.getElem?_drop] at hi
      obtain ⟨hcl, hcc⟩ := hc _ _ hi
      refine ⟨hcl, fun j v hj => ?_⟩
      have := hcc j v hj
      rw [Nat.add_mul, ← Nat.add_assoc] at this
      exact this
  · rw [List.getElem?_drop] at hi
    exact hrc _ _ hi

theorem rv_take {t : Option (Nat × Nat)} {len h : Nat} {xs : List AV} {v : Value} (hv : RV w T (.lsl t len xs) v) (h2 : h ≤ xs.length) :
    ∃ ad cap, v = .slice ad len cap ∧ h ≤ cap ∧ RV w T (.lsl t h xs) (.slice ad h cap) := by
  obtain ⟨ad, cap, s', cells, rfl, hlc, hll, hxc, hmx, hne, ht, hrc⟩ := hv.lsl_inv
  exact ⟨ad, cap, rfl, by omega, RC.lsl t h cap s' xs ad cells (by omega) h2 hxc hmx hne ht hrc⟩

theorem add_zero_addr (ad : Addr) : ad.add 0 = ad := by simp [Addr.add]

theorem q_slc {d s : Nat} {y : Opd} {lo hi : Option Opd} (hH : ∀ d k, H d = some k → BOK w T base k) (hr : Rel w T nt E a) (hm : mOp P nt o (.slc d s y lo hi) = true) (h : vq E H (.slc d s y lo hi) K) :
    ∃ d x u, o.dst = some d ∧ d < nt ∧ K d x ∧ RV w T x u ∧ Quiet P w false o a u := by
  obtain ⟨h1, h2, h3⟩ := mOp_dst hm rfl
  obtain ⟨t, x1, l1, r1, hs, hx, hl, hh, hop⟩ : ∃ t x1 l1 r1, (if s = 0 then isStr P t else (match elOf P t with | some ti => ti.size == s | none => false)) = true ∧ mOpd nt x1 y = true ∧ mOpdo nt l1 lo = true ∧ mOpdo nt r1 hi = true ∧ o.op = .slice t x1 l1 r1 none := by
    generalize o.op = op' at *
    cases op' <;> first | (simp [mOp2, VOp.base, mOp1] at h3; done) | skip
    rename_i t x1 l1 r1 m
    cases m <;> first | (simp [mOp2, VOp.base, mOp1] at h3; done) | skip
    simp only [mOp2, VOp.base, mOp1, Bool.and_eq_true] at h3
    exact ⟨_, _, _, _, h3.1.1.1, h3.1.1.2, h3.1.2, h3.2, rfl⟩
  have hvx := hr.ev hx
  simp only [vq] at h
  have hexec : ∀ w', (execOp a.eval o).run P w' = ((Instr.sliceAt t (a.eval x1) (l1.map a.eval) (r1.map a.eval) none).run P w').andThen fun v w'' => .ok (.value v) w'' := fun w' => by
    simp [execOp, hop]
  -- what the bounds read as
  have hlo : (l1.map a.eval = none ∧ lo.map (ev E) = none) ∨ ∃ u v, l1.map a.eval = some u ∧ lo.map (ev E) = some v ∧ RV w T v u := by
    rcases hr.evo hl with ⟨rfl, rfl⟩ | ⟨x', y', rfl, rfl, hv⟩
    · exact .inl ⟨rfl, rfl⟩
    · exact .inr ⟨_, _, rfl, rfl, hv⟩
  have hhi : (r1.map a.eval = none ∧ hi.map (ev E) = none) ∨ ∃ u v, r1.map a.eval = some u ∧ hi.map (ev E) = some v ∧ RV w T v u := by
    rcases hr.evo hh with ⟨rfl, rfl⟩ | ⟨x', y', rfl, rfl, hv⟩
    · exact .inl ⟨rfl, rfl⟩
    · exact .inr ⟨_, _, rfl, rfl, hv⟩
  generalize hel : l1.map a.eval = l1v at *
  generalize her : r1.map a.eval = r1v at *
  generalize lo.map (ev E) = lov at *
  generalize hi.map (ev E) = hiv at *
  generalize ev E y = vy at *
  have slT : 0 < s → ∃ e ti, P.underlying t = some (.slice e) ∧ P.info? e = some ti ∧ ti.size = s := fun h0 => by
    rw [if_neg (by omega)] at hs
    split at hs <;> first | (cases hs; done) | skip
    rename_i ti hti
    obtain ⟨e, he, hi⟩ := elOf_spec hti
    exact ⟨e, ti, he, hi, by simpa using hs⟩
  have stT : s = 0 → P.underlying t = some .string := fun h0 => by
    rw [if_pos h0] at hs
    exact isStr_spec hs
  split at h <;> first | (exact h.elim) | skip
  · -- a string's head
    rename_i v k hI
    obtain ⟨h0, hp, hle, hK⟩ := h
    rcases hlo with ⟨rfl, _⟩ | ⟨u, v', _, h', _⟩ <;> first | (cases h'; done) | skip
    rcases hhi with ⟨_, h'⟩ | ⟨u, v', rfl, h', hru⟩ <;> first | (cases h'; done) | skip
    cases h'
    obtain ⟨m, rfl⟩ := Int.eq_ofNat_of_zero_le hp
    refine ⟨d, _, .string (v.extract 0 m), h1, h2, hK, RC.str _, fun w' _ => ?_⟩
    rw [hexec, hvx.str_inv, run_cut_str (stT h0) v none (some u) 0 m (.inl ⟨rfl, rfl⟩) (.inr ⟨k, by rw [hru.int_inv]⟩) (by omega) (by omega)]
    rfl
  · rename_i v k hI
    obtain ⟨h0, hp, hle, hK⟩ := h
    rcases hlo with ⟨_, h'⟩ | ⟨u, v', rfl, h', hru⟩ <;> first | (cases h'; done) | skip
    cases h'
    rcases hhi with ⟨rfl, _⟩ | ⟨_, _, _, h', _⟩ <;> first | (cases h'; done) | skip
    obtain ⟨m, rfl⟩ := Int.eq_ofNat_of_zero_le hp
    refine ⟨d, _, .string (v.extract m v.size), h1, h2, hK, RC.str _, fun w' _ => ?_⟩
    rw [hexec, hvx.str_inv, run_cut_str (stT h0) v (some u) none m v.size (.inr ⟨k, by rw [hru.int_inv]⟩) (.inl ⟨rfl, rfl⟩) (by omega) (by omega)]
    rfl
  · rename_i v k hI k2 hJ
    obtain ⟨h0, hp, hle, hle2, hK⟩ := h
    rcases hlo with ⟨_, h'⟩ | ⟨u, v', rfl, h', hru⟩ <;> first | (cases h'; done) | skip
    cases h'
    rcases hhi with ⟨_, h'⟩ | ⟨u2, v', rfl, h', hru2⟩ <;> first | (cases h'; done) | skip
    cases h'
    obtain ⟨m, rfl⟩ := Int.eq_ofNat_of_zero_le hp
    obtain ⟨m2, rfl⟩ := Int.eq_ofNat_of_zero_le (show 0 ≤ hJ by omega)
    refine ⟨d, _, .string (v.extract m m2), h1, h2, hK, RC.str _, fun w' _ => ?_⟩
    rw [hexec, hvx.str_inv, run_cut_str (stT h0) v (some u) (some u2) m m2 (.inr ⟨k, by rw [hru.int_inv]⟩) (.inr ⟨k2, by rw [hru2.int_inv]⟩) (by omega) (by omega)]
    rfl
  · -- a slice's head
    rename_i tg len xs k hI
    obtain ⟨h0, hp, hle, hK⟩ := h
    rcases hlo with ⟨rfl, _⟩ | ⟨u, v', _, h', _⟩ <;> first | (cases h'; done) | skip
    rcases hhi with ⟨_, h'⟩ | ⟨u, v', rfl, h', hru⟩ <;> first | (cases h'; done) | skip
    cases h'
    obtain ⟨e, ti, he, hi, hts⟩ := slT h0
    obtain ⟨m, rfl⟩ := Int.eq_ofNat_of_zero_le hp
    obtain ⟨ad, cap, hav, hmc, hrv⟩ := rv_take hvx (show m ≤ xs.length by omega)
    refine ⟨d, _, .slice ad m cap, h1, h2, hK, hrv, fun w' _ => ?_⟩
    rw [hexec, hav, run_cut he hi ad len cap none (some u) 0 m (.inl ⟨rfl, rfl⟩) (.inr ⟨k, by rw [hru.int_inv]⟩) (by omega) hmc]
    have : (ad.map fun x => x.add (0 * ti.size)) = ad := by
      cases ad <;> simp [add_zero_addr]
    rw [this]
    simp
  · rename_i tg len xs k hI
    obtain ⟨h0, hp, hle, hsz, hK⟩ := h
    rcases hlo with ⟨_, h'⟩ | ⟨u, v', rfl, h', hru⟩ <;> first | (cases h'; done) | skip
    cases h'
    rcases hhi with ⟨rfl, _⟩ | ⟨_, _, _, h', _⟩ <;> first | (cases h'; done) | skip
    obtain ⟨e, ti, he, hi, hts⟩ := slT h0
    obtain ⟨m, rfl⟩ := Int.eq_ofNat_of_zero_le hp
    have hlx : len ≤ xs.length := by obtain ⟨_, _, _, _, _, _, h, _⟩ := hvx.lsl_inv; exact h
    obtain ⟨ad, cap, hav, hmc, hrv⟩ := rv_drop hvx hsz h0 (show m ≤ len by omega) hlx
    refine ⟨d, _, _, h1, h2, hK, hrv, fun w' _ => ?_⟩
    rw [hexec, hav, run_cut he hi ad len cap (some u) none m len (.inr ⟨k, by rw [hru.int_inv]⟩) (.inl ⟨rfl, rfl⟩) (by omega) hmc, hts]
    rfl
  · rename_i tg len xs k hI k2 hJ
    obtain ⟨h0, hp, hle, hle2, hsz, hK⟩ := h
    rcases hlo with ⟨_, h'⟩ | ⟨u, v', rfl, h', hru⟩ <;> first | (cases h'; done) | skip
    cases h'
    rcases hhi with ⟨_, h'⟩ | ⟨u2, v', rfl, h', hru2⟩ <;> first | (cases h'; done) | skip
    cases h'
    obtain ⟨e, ti, he, hi, hts⟩ := slT h0
    obtain ⟨m, rfl⟩ := Int.eq_ofNat_of_zero_le hp
    obtain ⟨m2, rfl⟩ := Int.eq_ofNat_of_zero_le (show 0 ≤ hJ by omega)
    obtain ⟨ad, cap, hav, hmc, hrv⟩ := rv_drop hvx hsz h0 (show m ≤ m2 by omega) (by omega)
    refine ⟨d, _, _, h1, h2, hK, hrv, fun w' _ => ?_⟩
    rw [hexec, hav, run_cut he hi ad len cap (some u) (some u2) m m2 (.inr ⟨k, by rw [hru.int_inv]⟩) (.inr ⟨k2, by rw [hru2.int_inv]⟩) (by omega) hmc, hts]
    rfl
  · -- a head of a row of one's own
    rename_i d' b s' len k hI
    obtain ⟨h0, kb, hk, rfl, rfl, hp, hle, hK⟩ := h
    rcases hlo with ⟨rfl, _⟩ | ⟨u, v', _, h', _⟩ <;> first | (cases h'; done) | skip
    rcases hhi with ⟨_, h'⟩ | ⟨u, v', rfl, h', hru⟩ <;> first | (cases h'; done) | skip
    cases h'
    obtain ⟨e, ti, he, hi, hts⟩ := slT h0
    obtain ⟨m, rfl⟩ := Int.eq_ofNat_of_zero_le hp
    obtain ⟨cap, hav, hlc, hcm, c, e', hh', hcs⟩ := hvx.own_inv
    obtain ⟨_, hpos, c2, e2, hh2, hlen, _, _⟩ := hH _ _ hk
    have : kb.xs.length ≤ cap := by
      rw [hh2] at hh'
      injection hh' with hh'
      injection hh' with hh' _ _
      subst hh'
      rw [hcs] at hlen
      exact Nat.le_of_mul_le_mul_right hlen hpos
    refine ⟨d, _, .slice (some ⟨kb.b, 0, none⟩) m cap, h1, h2, hK, RC.own d' kb.b kb.s m cap (by omega) hcm ⟨c, e', hh', hcs⟩, fun w' _ => ?_⟩
    rw [hexec, hav, run_cut he hi _ len cap none (some u) 0 m (.inl ⟨rfl, rfl⟩) (.inr ⟨k, by rw [hru.int_inv]⟩) (by omega) (by omega)]
    simp [add_zero_addr]
  · rename_i k
    obtain ⟨h0, hK⟩ := h
    rcases hlo with ⟨rfl, _⟩ | ⟨u, v', _, h', _⟩ <;> first | (cases h'; done) | skip
    rcases hhi with ⟨_, h'⟩ | ⟨u, v', rfl, h', hru⟩ <;> first | (cases h'; done) | skip
    cases h'
    obtain ⟨e, ti, he, hi, hts⟩ := slT h0
    obtain ⟨ad, hav⟩ := hvx.emp_inv
    refine ⟨d, _, .slice ad 0 0, h1, h2, hK, RC.emp _, fun w' _ => ?_⟩
    rw [hexec, hav, run_cut he hi ad 0 0 none (some u) 0 0 (.inl ⟨rfl, rfl⟩) (.inr ⟨k, by rw [hru.int_inv]; rfl⟩) (by omega) (by omega)]
    simp
end
end Go.AVM
