/- Own rows made firm; literals of slices; stores; appends. -/
import Derived.Test.YtnanbjnadkoekaaDoorVD
namespace Go.AVM
set_option linter.unusedSimpArgs false
open Go.RowKit
set_option linter.unusedVariables false
section
variable {P : Program} {w0 w : World} {S : Sg} {nt n : Nat} {E : Env} {H : Hp} {a : Act} {o : Oper}

theorem on_same {T T' : Nat → Prop} (h : ∀ g, T g → T' g) : On w w T T' := ⟨fun g hg => ⟨h g hg, rfl⟩, fun _ c _ hc => ⟨c, hc, rfl⟩⟩

theorem stb_drop {d : Nat} {g : Nat} (h : Stb w0 S H w g) : Stb w0 S (updH H d none) w g := by
  refine ⟨h.1, h.2.1, fun d' k hk hf => ?_⟩
  rcases updH_some hk with ⟨_, e⟩ | ⟨_, e⟩
  · cases e
  · exact h.2.2 d' k e hf

theorem SR.drop {d : Nat} (h : SR w0 S nt E H n a w) : SR w0 S nt E (updH H d none) n a w := by
  have hon : On w w (Stb w0 S H w) (Stb w0 S (updH H d none) w) := on_same fun g => stb_drop
  refine ⟨h.defs, h.size, h.bel, h.nle, h.nge, fun t ht => (h.tm t ht).mono hon, fun d' k hk => ?_, fun d1 d2 k1 k2 e1 e2 he => ?_⟩
  · rcases updH_some hk with ⟨_, e⟩ | ⟨_, e⟩
    · cases e
    · exact (h.blk d' k e).mono hon rfl
  · rcases updH_some e1 with ⟨_, e⟩ | ⟨_, g1⟩
    · cases e
    rcases updH_some e2 with ⟨_, e⟩ | ⟨_, g2⟩
    · cases e
    exact h.inj d1 d2 k1 k2 g1 g2 he

theorem stb_sub {H1 : Hp} (hs : ∀ d k, H1 d = some k → H d = some k) {g : Nat} (h : Stb w0 S H w g) : Stb w0 S H1 w g :=
  ⟨h.1, h.2.1, fun d k hk hf => h.2.2 d k (hs d k hk) hf⟩
theorem SR.sub {H1 : Hp} (h : SR w0 S nt E H n a w) (hs : ∀ d k, H1 d = some k → H d = some k) : SR w0 S nt E H1 n a w :=
  ⟨h.defs, h.size, h.bel, h.nle, h.nge, fun t ht => (h.tm t ht).mono (on_same fun g hg => stb_sub hs hg), fun d k hk => (h.blk d k (hs d k hk)).mono (on_same fun g hg => stb_sub hs hg) rfl, fun d1 d2 k1 k2 e1 e2 he => h.inj d1 d2 k1 k2 (hs _ _ e1) (hs _ _ e2) he⟩
/-- A row of one's own, made firm. -/
theorem own_firm {d b s len : Nat} {v : Value} {k : Blk} (h : SR w0 S nt E H n a w) (hu : RV w (Stb w0 S H w) (.own d b s len) v) (hk : H d = some k) (hb : k.b = b) (hs : k.s = s) (hl : len ≤ k.xs.length) :
    RC w (Stb w0 S (updH H d none) w) (.lsl (some (b, s)) len k.xs) [v] := by
  subst hb hs
  obtain ⟨cap, rfl, hlc, hcm, c, e, hh, hcs⟩ := hu.own_inv
  obtain ⟨hlow, hpos, c2, e2, hh2, hlen, _, hall⟩ := h.blk d k hk
  rw [hh2] at hh
  injection hh with hh
  injection hh with hh he _
  subst hh
  have hxc : k.xs.length ≤ cap := by
    rw [hcs] at hlen
    exact Nat.le_of_mul_le_mul_right hlen hpos
  have hT : Stb w0 S (updH H d none) w k.b := by
    refine ⟨.inr hlow, (h.blk d k hk).lt, fun d' k' hk' hf he' => ?_⟩
    rcases updH_some hk' with ⟨_, e⟩ | ⟨hne, e⟩
    · cases e
    · exact hne (h.inj d' d k' k e hk he')
  have hon : On w w (Stb w0 S H w) (Stb w0 S (updH H d none) w) := on_same fun g => stb_drop
  let cells : Nat → List Value := fun i => (c2.toList.drop (i * k.s)).take k.s
  have hcell : ∀ (i : Nat) (x : AV), k.xs[i]? = some x → (cells i).length = k.s ∧ RC w (Stb w0 S (updH H d none) w) x (cells i) := by
    intro i x hi
    obtain ⟨cs, h3, h4, h5⟩ := hall i x hi
    have : cells i = cs := by
      apply List.ext_getElem?
      intro j
      simp only [cells, List.getElem?_take, List.getElem?_drop]
      by_cases hj : j < k.s
      · rw [if_pos hj]
        have hj' : j < cs.length := by omega
        have := h5 j cs[j] (List.getElem?_eq_getElem hj')
        rw [List.getElem?_eq_getElem hj', ← this]
        simp
      · rw [if_neg hj, List.getElem?_eq_none (by omega)]
    rw [this]
    exact ⟨h3, h4.mono hon⟩
  refine RC.lsl (some (k.b, k.s)) len cap k.s k.xs _ cells hlc hl hxc hcm (fun _ => ⟨k.b, 0, rfl, hT, fun i x hi => ⟨(hcell i x hi).1, fun j v hj => ?_⟩⟩) (fun b s' hbs => ?_) (fun i x hi => (hcell i x hi).2)
  · simp only [cells, List.getElem?_take, List.getElem?_drop] at hj
    split at hj <;> first | (cases hj; done) | skip
    simp only [World.cell?, hh2, Nat.zero_add]
    simpa using hj
  · obtain ⟨rfl, rfl⟩ : k.b = b ∧ k.s = s' := by simpa using hbs
    exact ⟨rfl, hT, rfl, c2, e2, hh2, hcs⟩

theorem sol1_ok {x : AV} {v : Value} {K : AV → Hp → Prop} (h : SR w0 S nt E H n a w) (hu : RV w (Stb w0 S H w) x v) (hs : sol1 H x K) :
    ∃ x' H', K x' H' ∧ SR w0 S nt E H' n a w ∧ (∀ g, Stb w0 S H w g → Stb w0 S H' w g) ∧ RC w (Stb w0 S H' w) x' [v] ∧ x'.isAgg = false ∧ x'.sz = 1 := by
  cases x <;> first
    | (exact hs.elim)
    | exact ⟨_, H, hs, h, fun _ hg => hg, hu.cell rfl (by simp [AV.sz]), rfl, rfl⟩
    | skip
  obtain ⟨k, hk, hb, hss, hl, hK⟩ := hs
  exact ⟨_, _, hK, h.drop, fun g => stb_drop, own_firm h hu hk hb hss hl, rfl, rfl⟩

theorem sols_ok : ∀ (fs : List AV) (cs : List Value) {H : Hp} {K : List AV → Hp → Prop}, SR w0 S nt E H n a w → fs.length = cs.length → (∀ f ∈ fs, f.isAgg = false) → (∀ (i : Nat) (f : AV) (c : Value), fs[i]? = some f → cs[i]? = some c → RC w (Stb w0 S H w) f [c]) → sols H fs K →
    ∃ fs' H', K fs' H' ∧ SR w0 S nt E H' n a w ∧ (∀ g, Stb w0 S H w g → Stb w0 S H' w g) ∧ fs'.length = cs.length ∧ (∀ f ∈ fs', f.isAgg = false) ∧ ∀ (i : Nat) (f : AV) (c : Value), fs'[i]? = some f → cs[i]? = some c → RC w (Stb w0 S H' w) f [c]
  | [], cs, H, K, h, hl, _, _, hs => ⟨[], H, hs, h, fun _ hg => hg, hl, by simp, by simp⟩
  | f :: fs, [], H, K, h, hl, _, _, hs => by simp at hl
  | f :: fs, c :: cs, H, K, h, hl, hn, hrc, hs => by
    have h0 := hrc 0 f c rfl rfl
    obtain ⟨f', H1, hs1, hsr1, hst1, hr1, hna1, _⟩ := sol1_ok h (h0.rv (hn f (List.mem_cons_self))) hs
    obtain ⟨fs', H2, hK, hsr2, hst2, hl2, hn2, hr2⟩ := sols_ok fs cs hsr1 (by simpa using hl) (fun g hg => hn g (List.mem_cons_of_mem _ hg)) (fun i g c' hg hc => (hrc (i + 1) g c' hg hc).mono (on_same hst1)) hs1
    refine ⟨f' :: fs', H2, hK, hsr2, fun g hg => hst2 g (hst1 g hg), by simpa using hl2, fun g hg => ?_, fun i g c' hg hc => ?_⟩
    · rcases List.mem_cons.1 hg with rfl | hg
      · exact hna1
      · exact hn2 g hg
    · cases i with
      | zero =>
        obtain rfl : f' = g := by simpa using hg
        obtain rfl : c = c' := by simpa using hc
        exact hr1.mono (on_same hst2)
      | succ i => exact hr2 i g c' (by simpa using hg) (by simpa using hc)

theorem sol_ok {x : AV} {v : Value} {K : AV → Hp → Prop} (h : SR w0 S nt E H n a w) (hu : RV w (Stb w0 S H w) x v) (hs : sol H x K) :
    ∃ x' H', K x' H' ∧ SR w0 S nt E H' n a w ∧ (∀ g, Stb w0 S H w g → Stb w0 S H' w g) ∧ RV w (Stb w0 S H' w) x' v ∧ (∀ vs, x' ≠ .tup vs) ∧ x' ≠ .undef := by
  cases hx : x with
  | agg fs =>
    subst hx
    obtain ⟨cs, rfl, hl, hn, hrc⟩ := hu.agg_inv
    obtain ⟨fs', H', hK, h1, h2, h3, h4, h5⟩ := sols_ok fs cs.toList h (by simpa using hl) hn (fun i f c hf hc => hrc i f c hf (by simpa using hc)) hs
    exact ⟨_, H', hK, h1, h2, ⟨cs, rfl, .agg _ _ h3 h4 h5⟩, by simp, by simp⟩
  | _ =>
    subst hx
    obtain ⟨x', H', hK, h1, h2, h3, h4, h5⟩ := sol1_ok h hu hs
    exact ⟨x', H', hK, h1, h2, h3.rv h4, (by rintro vs rfl; cases h3), (by rintro rfl; simp [AV.sz] at h5)⟩

theorem solE_ok : ∀ (xs : List AV) (vs : List Value) {H : Hp} {K : List AV → Hp → Prop}, SR w0 S nt E H n a w → xs.length = vs.length → (∀ (i : Nat) (x : AV) (v : Value), xs[i]? = some x → vs[i]? = some v → RV w (Stb w0 S H w) x v) → solE H xs K →
    ∃ ys H', K ys H' ∧ SR w0 S nt E H' n a w ∧ (∀ g, Stb w0 S H w g → Stb w0 S H' w g) ∧ ys.length = vs.length ∧ ∀ (i : Nat) (x : AV) (v : Value), ys[i]? = some x → vs[i]? = some v → RV w (Stb w0 S H' w) x v ∧ (∀ vs, x ≠ .tup vs) ∧ x ≠ .undef
  | [], vs, H, K, h, hl, _, hs => ⟨[], H, hs, h, fun _ hg => hg, hl, by simp⟩
  | x :: xs, [], H, K, h, hl, _, hs => by simp at hl
  | x :: xs, v :: vs, H, K, h, hl, hrv, hs => by
    obtain ⟨x', H1, hs1, hsr1, hst1, hr1, ht1, hu1⟩ := sol_ok h (hrv 0 x v rfl rfl) hs
    obtain ⟨ys, H2, hK, hsr2, hst2, hl2, hr2⟩ := solE_ok xs vs hsr1 (by simpa using hl) (fun i y u hy hu => (hrv (i + 1) y u hy hu).mono (on_same hst1)) hs1
    refine ⟨x' :: ys, H2, hK, hsr2, fun g hg => hst2 g (hst1 g hg), by simpa using hl2, fun i y u hy hu => ?_⟩
    cases i with
    | zero =>
      obtain rfl : x' = y := by simpa using hy
      obtain rfl : v = u := by simpa using hu
      exact ⟨hr1.mono (on_same hst2), ht1, hu1⟩
    | succ i => exact hr2 i y u (by simpa using hy) (by simpa using hu)

/-! ### a slice's literal -/
theorem seqOk_spec : ∀ (k : Nat) (ps : List (Nat × Operand)) (ys : List Opd), seqOk nt k ps ys = true → ps.length = ys.length ∧ ∀ (i : Nat) (p : Nat × Operand), ps[i]? = some p → p.1 = k + i ∧ ∃ y, ys[i]? = some y ∧ mOpd nt p.2 y = true
  | _, [], [], _ => ⟨rfl, by simp⟩
  | k, p :: ps, y :: ys, h => by
    simp only [seqOk, Bool.and_eq_true, beq_iff_eq] at h
    obtain ⟨h1, h2⟩ := seqOk_spec (k + 1) ps ys h.2
    refine ⟨by simp [h1], fun i q hq => ?_⟩
    cases i with
    | zero =>
      obtain rfl : p = q := by simpa using hq
      exact ⟨by simp [h.1.1], y, rfl, h.1.2⟩
    | succ i =>
      obtain ⟨h3, h4⟩ := h2 i q (by simpa using hq)
      exact ⟨by omega, h4⟩
  | _, [], y :: ys, h => by simp [seqOk] at h
  | _, p :: ps, [], h => by simp [seqOk] at h

/-- the cells of a slice's literal: each part's, one behind the other -/
theorem foldl_set : ∀ (vs : List Value) (cs : Array Value) (off k : Nat), off + k + vs.length ≤ cs.size →
    ((vs.zipIdx k).foldl (fun cs (p : Value × Nat) => cs.setIfInBounds (off + p.2) p.1) cs).size = cs.size ∧
    ∀ i, ((vs.zipIdx k).foldl (fun cs (p : Value × Nat) => cs.setIfInBounds (off + p.2) p.1) cs)[i]? = if off + k ≤ i ∧ i < off + k + vs.length then vs[i - (off + k)]? else cs[i]?
  | [], cs, off, k, _ => ⟨rfl, fun i => by rw [if_neg (by simp only [List.length_nil]; omega)]; simp⟩
  | v :: vs, cs, off, k, hl => by
    simp only [List.length_cons] at hl
    obtain ⟨h1, h2⟩ := foldl_set vs (cs.setIfInBounds (off + k) v) off (k + 1) (by simp; omega)
    refine ⟨by rw [List.zipIdx_cons, List.foldl_cons, h1]; simp, fun i => ?_⟩
    rw [List.zipIdx_cons, List.foldl_cons, h2]
    simp only [List.length_cons]
    by_cases hi : i = off + k
    · subst hi
      rw [if_neg (by omega), if_pos (by omega)]
      have : off + k < cs.size := by omega
      simp [this]
    · by_cases hr : off + (k + 1) ≤ i ∧ i < off + (k + 1) + vs.length
      · rw [if_pos hr, if_pos (by omega)]
        have : i - (off + k) = (i - (off + (k + 1))) + 1 := by omega
        rw [this]
        rfl
      · rw [if_neg hr, if_neg (by omega), Array.getElem?_setIfInBounds_ne (by omega)]

theorem fill_seq (s len : Nat) : ∀ (vs : List Value) (k : Nat) (cs : Array Value), cs.size = len * s → k + vs.length = len → (∀ v ∈ vs, v.cells.size = s) →
    ∃ cs' : Array Value, Instr.fill (fun i => some (i * s, s)) cs ((vs.zipIdx k).map fun p => (p.2, p.1)) = some cs' ∧ cs'.size = len * s ∧
      (∀ i, i < k * s → cs'[i]? = cs[i]?) ∧ ∀ (i : Nat) (v : Value), vs[i]? = some v → ∀ j, j < s → cs'[(k + i) * s + j]? = v.cells[j]?
  | [], k, cs, hs, _, _ => ⟨cs, rfl, hs, fun _ _ => rfl, by simp⟩
  | v :: vs, k, cs, hs, hk, hv => by
    simp only [List.length_cons] at hk
    have hvs := hv v (List.mem_cons_self)
    have hle : k * s + s ≤ len * s := by
      have : (k + 1) * s ≤ len * s := Nat.mul_le_mul_right _ (by omega)
      rwa [Nat.add_mul, Nat.one_mul] at this
    have hfs := foldl_set v.cells.toList cs (k * s) 0 (by simp [hvs, hs]; omega)
    obtain ⟨hf1, hf2⟩ := hfs
    obtain ⟨cs', h1, h2, h3, h4⟩ := fill_seq s len vs (k + 1) _ (hf1.trans hs) (by omega) (fun u hu => hv u (List.mem_cons_of_mem _ hu))
    refine ⟨cs', ?_, h2, fun i hi => ?_, fun i u hu j hj => ?_⟩
    · simp only [List.zipIdx_cons, List.map_cons, Instr.fill]
      have hno : ¬ (v.cells.size ≠ s || decide (k * s + v.cells.size > cs.size)) = true := by
        simp [hvs, hs]
        omega
      simp only [hvs, hs] at hno ⊢
      rw [if_neg (by simpa using hno)]
      rw [← h1]
      congr 1
      rw [← Array.foldl_toList]
      simp
    · rw [h3 i (by rw [Nat.add_mul, Nat.one_mul]; omega), hf2, if_neg (by omega)]
    · cases i with
      | zero =>
        obtain rfl : v = u := by simpa using hu
        rw [Nat.add_zero, h3 _ (by rw [Nat.add_mul, Nat.one_mul]; omega), hf2, if_pos (by simp [hvs]; omega)]
        simp
      | succ i =>
        rw [show k + (i + 1) = k + 1 + i by omega]
        exact h4 i u (by simpa using hu) j hj
end
end Go.AVM
