/- Steps of the proof alone: a firm list taken over to be written; own rows made firm; forgetting. -/
import Derived.Test.YtnanbjnadkoekaaDoorVI
namespace Go.AVM
set_option linter.unusedSimpArgs false
set_option linter.unusedVariables false

/-- no block of B is in it -/
inductive Av (B : Nat → Prop) : AV → Prop
  | undef : Av B .undef
  | bool (b : Bool) : Av B (.bool b)
  | int (k : IntKind) (n : Int) : Av B (.int k n)
  | str (s : ByteArray) : Av B (.str s)
  | emp : Av B .emp
  | own (d b s len : Nat) : Av B (.own d b s len)
  | optr (d b s i : Nat) (f : Option Nat) : Av B (.optr d b s i f)
  | lsl0 (len : Nat) : Av B (.lsl none len [])
  | lsl (b s len : Nat) (xs : List AV) (hb : ¬ B b) (h : ∀ x ∈ xs, Av B x) : Av B (.lsl (some (b, s)) len xs)
  | agg (fs : List AV) (h : ∀ x ∈ fs, Av B x) : Av B (.agg fs)
  | tup (fs : List AV) (h : ∀ x ∈ fs, Av B x) : Av B (.tup fs)
  | fn (f : FuncId) (fs : List AV) (h : ∀ x ∈ fs, Av B x) : Av B (.fn f fs)
  | old (N : Nat) (x : AV) (h : ∀ b, B b → N ≤ b) : Av B (.old N x)

section
variable {w : World} {T B : Nat → Prop}
theorem Av.rc {x : AV} {cs : List Value} (h : RC w T x cs) : Av B x → RC w (fun g => T g ∧ ¬ B g) x cs := by
  induction h with
  | undef cs h => exact fun _ => .undef cs h
  | bool b => exact fun _ => .bool b
  | int k n => exact fun _ => .int k n
  | str s => exact fun _ => .str s
  | agg fs cs hl hn h ih =>
    intro ha
    cases ha with
    | agg _ ha => exact .agg fs cs hl hn fun i f c hf hc => ih i f c hf hc (ha f (List.mem_of_getElem? hf))
  | emp a => exact fun _ => .emp a
  | lsl t len cap s xs a cells h1 h2 h3 hm hne ht h ih =>
    intro ha
    cases ha with
    | lsl0 => exact .lsl none len cap s [] a cells h1 h2 h3 hm (by simp) (by simp) (by simp)
    | lsl b s' _ _ hb ha =>
      refine .lsl _ len cap s xs a cells h1 h2 h3 hm (fun hx => ?_) (fun b' s2 hbs => ?_) fun i x hi => ih i x hi (ha x (List.mem_of_getElem? hi))
      · obtain ⟨g, off, hga, hT, hc⟩ := hne hx
        refine ⟨g, off, hga, ⟨hT, ?_⟩, hc⟩
        obtain ⟨_, _, ha', _⟩ := ht b s' rfl
        rw [hga] at ha'
        have : g = b := by simpa using congrArg (Option.map Addr.block) ha'
        rw [this]
        exact hb
      · obtain ⟨g1, g2, g3⟩ := ht b' s2 hbs
        obtain ⟨rfl, rfl⟩ : b = b' ∧ s' = s2 := by simpa using hbs
        exact ⟨g1, ⟨g2, hb⟩, g3⟩
  | own d b s len cap hl hm h => exact fun _ => .own d b s len cap hl hm h
  | lptr x cs g off hT hs hc h ih => intro ha; cases ha
  | optr d b s i f => exact fun _ => .optr d b s i f
  | fn f cap cs hl hn h ih =>
    intro ha
    cases ha with
    | fn _ _ ha => exact .fn f cap cs hl hn fun i x c hx hc => ih i x c hx hc (ha x (List.mem_of_getElem? hx))

theorem Av.rv0 {x : AV} {v : Value} (h : RV0 w T x v) (ha : Av B x) : RV0 w (fun g => T g ∧ ¬ B g) x v := by
  cases x <;> first | exact ha.rc h | exact h | skip
  · obtain ⟨cs, e, h⟩ := h
    exact ⟨cs, e, ha.rc h⟩
  · rename_i N x
    cases ha with
    | old _ _ ha => exact RVp.mono (on_same fun g hg => ⟨⟨hg.1, fun hb => absurd (ha g hb) (by have := hg.2; omega)⟩, hg.2⟩) h
theorem Av.rv {x : AV} {v : Value} (h : RV w T x v) (ha : Av B x) : RV w (fun g => T g ∧ ¬ B g) x v := by
  by_cases hx : ∀ vs, x ≠ .tup vs
  · exact RV.of0 (Av.rv0 (RV.to0 h hx) ha)
  obtain ⟨vs, rfl⟩ : ∃ vs, x = .tup vs := by
    cases x <;> first | exact ⟨_, rfl⟩ | exact absurd (by simp) hx
  obtain ⟨cs, e, hs, h⟩ := h
  cases ha with
  | tup _ ha => exact ⟨cs, e, hs, fun i x hi => let ⟨u, hu, hr⟩ := h i x hi; ⟨u, hu, (ha x (List.mem_of_getElem? hi)).rv0 hr⟩⟩

/-- lists taken over: what they become, and the rows that come with them -/
inductive Tw (B : Nat → Prop) : List AV → List AV → List (Nat × Blk) → Prop
  | nil : Tw B [] [] []
  | same (x : AV) (xs ys : List AV) (l : List (Nat × Blk)) (hx : Av B x) (h : Tw B xs ys l) : Tw B (x :: xs) (x :: ys) l
  | lsl (d b s len : Nat) (xs0 ys0 xs ys : List AV) (l0 l : List (Nat × Blk)) (hs : 0 < s) (h0 : Tw B xs0 ys0 l0) (h : Tw B xs ys l) :
      Tw B (.lsl (some (b, s)) len xs0 :: xs) (.own d b s len :: ys) ((d, ⟨b, s, ys0, false, false, false⟩) :: (l0 ++ l))
  | agg (fs gs xs ys : List AV) (l0 l : List (Nat × Blk)) (h0 : Tw B fs gs l0) (h : Tw B xs ys l) : Tw B (.agg fs :: xs) (.agg gs :: ys) (l0 ++ l)

theorem Tw.len {xs ys : List AV} {l : List (Nat × Blk)} (h : Tw B xs ys l) : xs.length = ys.length := by
  induction h with
  | nil => rfl
  | same _ _ _ _ _ _ ih => simp [ih]
  | lsl _ _ _ _ _ _ _ _ _ _ _ _ _ _ ih => simp [ih]
  | agg _ _ _ _ _ _ _ _ _ ih => simp [ih]
theorem Tw.kind {xs ys : List AV} {l : List (Nat × Blk)} (h : Tw B xs ys l) : ∀ (i : Nat) (x y : AV), xs[i]? = some x → ys[i]? = some y → y.isAgg = x.isAgg ∧ y.sz = x.sz := by
  induction h with
  | nil => intro i x y hx; simp at hx
  | same z _ _ _ _ _ ih =>
    intro i x y hx hy
    cases i with
    | zero => simp at hx hy; subst hx hy; exact ⟨rfl, rfl⟩
    | succ i => exact ih i x y (by simpa using hx) (by simpa using hy)
  | lsl _ _ _ _ _ _ _ _ _ _ _ _ _ _ ih =>
    intro i x y hx hy
    cases i with
    | zero => simp at hx hy; subst hx hy; exact ⟨rfl, rfl⟩
    | succ i => exact ih i x y (by simpa using hx) (by simpa using hy)
  | agg _ _ _ _ _ _ h0 _ _ ih =>
    intro i x y hx hy
    cases i with
    | zero => simp at hx hy; subst hx hy; exact ⟨rfl, h0.len.symm⟩
    | succ i => exact ih i x y (by simpa using hx) (by simpa using hy)

theorem Tw.ok {M : Nat → Prop} {xs ys : List AV} {l : List (Nat × Blk)} (h : Tw B xs ys l) : ∀ (css : List (List Value)), css.length = xs.length → (∀ p ∈ l, M p.2.b) →
    (∀ (i : Nat) (x : AV) (cs : List Value), xs[i]? = some x → css[i]? = some cs → RC w T x cs) →
    (∀ (i : Nat) (y : AV) (cs : List Value), ys[i]? = some y → css[i]? = some cs → RC w (fun g => T g ∧ ¬ B g) y cs) ∧ ∀ p ∈ l, BOK w (fun g => T g ∧ ¬ B g) M p.2 ∧ T p.2.b := by
  induction h with
  | nil => intro css _ _ _; exact ⟨fun i y cs hy => by simp at hy, by simp⟩
  | same z xs ys l hz h ih =>
    intro css hl hM hr
    cases css with
    | nil => simp at hl
    | cons c css =>
      obtain ⟨g1, g2⟩ := ih css (by simpa using hl) hM fun i x cs hx hc => hr (i + 1) x cs (by simpa using hx) (by simpa using hc)
      refine ⟨fun i y cs hy hc => ?_, g2⟩
      cases i with
      | zero =>
        obtain rfl : z = y := by simpa using hy
        exact hz.rc (hr 0 z cs rfl hc)
      | succ i => exact g1 i y cs (by simpa using hy) (by simpa using hc)
  | lsl d b s len xs0 ys0 xs ys l0 l hs h0 h ih0 ih =>
    intro css hl hM hr
    cases css with
    | nil => simp at hl
    | cons c css =>
      obtain ⟨g1, g2⟩ := ih css (by simpa using hl) (fun p hp => hM p (by simp [hp])) fun i x cs hx hc => hr (i + 1) x cs (by simpa using hx) (by simpa using hc)
      have hc := hr 0 _ c rfl rfl
      cases hc with
      | lsl _ _ cap s1 _ ad cells h1 h2 h3 hm hne ht hrc =>
      obtain ⟨hs1, hTb, had, ca, e, hh, hcs⟩ := ht b s rfl
      subst hs1
      have hl0 := h0.len
      obtain ⟨q1, q2⟩ := ih0 ((List.range xs0.length).map cells) (by simp) (fun p hp => hM p (by simp [hp])) fun i x cs hx hc' => by
        have hlt := (List.getElem?_eq_some_iff.1 hx).1
        simp [hlt] at hc'
        subst hc'
        exact hrc i x hx
      refine ⟨fun i y cs hy hc' => ?_, fun p hp => ?_⟩
      · cases i with
        | zero =>
          obtain rfl : AV.own d b s len = y := by simpa using hy
          obtain rfl : [Value.slice ad len cap] = cs := by simpa using hc'
          rw [had]
          exact .own d b s len cap h1 hm ⟨ca, e, hh, hcs⟩
        | succ i => exact g1 i y cs (by simpa using hy) (by simpa using hc')
      · rcases List.mem_cons.1 hp with rfl | hp
        · refine ⟨⟨hM _ List.mem_cons_self, hs, ca, e, hh, ?_, by simp, fun i x hi => ?_⟩, hTb⟩
          · rw [hcs, ← hl0]
            exact Nat.mul_le_mul_right _ h3
          · have hlt : i < xs0.length := by rw [hl0]; exact (List.getElem?_eq_some_iff.1 hi).1
            have hx0 := List.getElem?_eq_getElem hlt
            obtain ⟨g, off, hga, _, hcell⟩ := hne (by rintro rfl; simp at hlt)
            rw [had] at hga
            obtain ⟨rfl, rfl⟩ : b = g ∧ 0 = off := by simpa using hga
            obtain ⟨q3, q4⟩ := hcell i _ hx0
            refine ⟨cells i, q3, q1 i x (cells i) hi (by simp [hlt]), fun j v hj => ?_⟩
            have := q4 j v hj
            simpa [World.cell?, hh] using this
        · rcases List.mem_append.1 hp with hp | hp
          · exact q2 p hp
          · exact g2 p hp
  | agg fs gs xs ys l0 l h0 h ih0 ih =>
    intro css hl hM hr
    cases css with
    | nil => simp at hl
    | cons c css =>
      obtain ⟨g1, g2⟩ := ih css (by simpa using hl) (fun p hp => hM p (by simp [hp])) fun i x cs hx hc => hr (i + 1) x cs (by simpa using hx) (by simpa using hc)
      have hc := hr 0 _ c rfl rfl
      cases hc with
      | agg _ _ hl0 hn hrc =>
      obtain ⟨q1, q2⟩ := ih0 (c.map fun u => [u]) (by simp [hl0]) (fun p hp => hM p (by simp [hp])) fun i x cs hx hc' => by
        rw [List.getElem?_map] at hc'
        obtain ⟨u, hu, rfl⟩ := Option.map_eq_some_iff.1 hc'
        exact hrc i x u hx hu
      refine ⟨fun i y cs hy hc' => ?_, fun p hp => ?_⟩
      · cases i with
        | zero =>
          obtain rfl : AV.agg gs = y := by simpa using hy
          obtain rfl : c = cs := by simpa using hc'
          refine .agg gs c (by rw [← h0.len, hl0]) (fun g hg => ?_) fun i f u hf hu => q1 i f [u] hf (by simp [hu])
          obtain ⟨i, hi⟩ := List.mem_iff_getElem?.1 hg
          have hlt : i < fs.length := by rw [h0.len]; exact (List.getElem?_eq_some_iff.1 hi).1
          rw [(h0.kind i _ g (List.getElem?_eq_getElem hlt) hi).1]
          exact hn _ (List.getElem_mem hlt)
        | succ i => exact g1 i y cs (by simpa using hy) (by simpa using hc')
      · rcases List.mem_append.1 hp with hp | hp
        · exact q2 p hp
        · exact g2 p hp
end

theorem rv_of_cells {w : World} {T T' : Nat → Prop} {x y : AV} {v : Value} (hx : RV w T x v) (hz : x.sz ≠ 0) (hk : y.isAgg = x.isAgg ∧ y.sz = x.sz) (h : RC w T' y v.cells.toList) : RV w T' y v := by
  cases ha : x.isAgg with
  | true =>
    cases x <;> simp [AV.isAgg] at ha
    obtain ⟨cs, rfl, hc⟩ := hx
    rw [show AV.isAgg (AV.agg _) = true from rfl] at hk
    cases y <;> simp [AV.isAgg] at hk
    exact ⟨cs, rfl, by simpa [Value.cells] using h⟩
  | false =>
    have hc := hx.cell ha hz
    have hl := hc.len hz
    obtain ⟨u, hu, h1, h2⟩ := hc.len1 (by simpa using hl.symm)
    obtain rfl : v = u := by simpa using hu
    have he : v.cells = #[v] := by cases v <;> simp_all [Value.cells]
    rw [he] at h
    exact RC.rv h (hk.1.trans ha)

theorem gh_refl {lo nt : Nat} {E : Env} {H : Hp} {n : Nat} : GH lo nt E H n E H := fun _ _ _ _ _ h => h

/-- Firm lists, made by calls, are taken over to be written. -/
theorem thaw {lo nt n : Nat} {E : Env} {H : Hp} (B : Nat → Prop) (xs ys : List AV) (L : List (Nat × Blk)) (ts : List Nat) (hTw : Tw B xs ys L) (hts : ts.length = xs.length) (hE : ∀ (i t : Nat) (x : AV), ts[i]? = some t → xs[i]? = some x → t < nt ∧ E t = x ∧ x.sz ≠ 0)
    (hB : ∀ p ∈ L, B p.2.b ∧ lo ≤ p.2.b) (hinj : ∀ p ∈ L, ∀ q ∈ L, p.2.b = q.2.b → p.1 = q.1) {E' : Env} {H' : Hp}
    (hH : ∀ d k, H d = some k → (k.fz = true → ¬ B k.b) ∧ ∀ x ∈ k.xs, Av B x)
    (hE' : ∀ t, t < nt → E' t = .undef ∨ (E' t = E t ∧ Av B (E t)) ∨ ∃ i : Nat, ts[i]? = some t ∧ ys[i]? = some (E' t))
    (hH' : ∀ d k, H' d = some k → (d, k) ∈ L ∨ H d = some k) : GH lo nt E H n E' H' := by
  intro w0 S a w hlo h
  subst hlo
  have hM : ∀ p ∈ L, Mine w0 S p.2.b := fun p hp => .inr (hB p hp).2
  obtain ⟨g1, g2⟩ := hTw.ok (w := w) (T := Stb w0 S H w) (M := Mine w0 S) (ts.map fun t => (a.tmps.getD t undef).cells.toList) (by simp [hts]) hM (fun i x cs hx hc => by
    rw [List.getElem?_map] at hc
    obtain ⟨t, ht, rfl⟩ := Option.map_eq_some_iff.1 hc
    obtain ⟨q1, rfl, q3⟩ := hE i t x ht hx
    exact ((h.tm t q1).cells q3).1)
  have hHk : ∀ d k, H' d = some k → (d, k) ∈ L ∨ H d = some k := hH'
  have hLH : ∀ p ∈ L, ∀ d k, H d = some k → p.2.b ≠ k.b := fun p hp d k hk he => by
    cases hf : k.fz with
    | true => exact (hH d k hk).1 hf (he ▸ (hB p hp).1)
    | false => exact (g2 p hp).2.2.2 d k hk hf he.symm
  have hT : ∀ g, (Stb w0 S H w g ∧ ¬ B g) → Stb w0 S H' w g := fun g hg => by
    refine ⟨hg.1.1, hg.1.2.1, fun d k hk hf he => ?_⟩
    rcases hHk d k hk with hl | hk
    · exact hg.2 (he ▸ (hB _ hl).1)
    · exact hg.1.2.2 d k hk hf he
  refine ⟨h.defs, h.size, h.bel, h.nle, h.nge, fun t ht => ?_, fun d k hk => ?_, fun d1 d2 k1 k2 e1 e2 he => ?_⟩
  · rcases hE' t ht with e | ⟨e, ha⟩ | ⟨i, e1, e2⟩
    · rw [e]; trivial
    · rw [e]
      exact (ha.rv (h.tm t ht)).mono (on_same hT)
    · have hlt : i < xs.length := by rw [← hts]; exact (List.getElem?_eq_some_iff.1 e1).1
      have hx := List.getElem?_eq_getElem hlt
      obtain ⟨q1, q2, q3⟩ := hE i t _ e1 hx
      have hr := g1 i (E' t) _ e2 (by rw [List.getElem?_map, e1]; rfl)
      refine (rv_of_cells (h.tm t q1) (by rw [q2]; exact q3) ?_ hr).mono (on_same hT)
      rw [q2]
      exact hTw.kind i _ _ hx e2
  · rcases hHk d k hk with hl | hk
    · exact (g2 _ hl).1.mono (on_same hT) rfl
    · obtain ⟨q1, q2, c, e, q3, q4, q5, q6⟩ := h.blk d k hk
      refine ⟨q1, q2, c, e, q3, q4, q5, fun i x hi => ?_⟩
      obtain ⟨cs, r1, r2, r3⟩ := q6 i x hi
      exact ⟨cs, r1, (((hH d k hk).2 x (List.mem_of_getElem? hi)).rc r2).mono (on_same hT), r3⟩
  · rcases hHk d1 k1 e1 with h1 | h1 <;> rcases hHk d2 k2 e2 with h2 | h2
    · exact hinj _ h1 _ h2 he
    · exact absurd he (hLH _ h1 d2 k2 h2)
    · exact absurd he.symm (hLH _ h2 d1 k1 h1)
    · exact h.inj d1 d2 k1 k2 h1 h2 he

/-! ### own rows, made firm -/
inductive Fm (H : Hp) : List AV → List AV → List Nat → Prop
  | nil : Fm H [] [] []
  | same (x : AV) (xs ys : List AV) (l : List Nat) (h : Fm H xs ys l) : Fm H (x :: xs) (x :: ys) l
  | own (d b s len : Nat) (k : Blk) (ys0 xs ys : List AV) (l0 l : List Nat) (hk : H d = some k) (hb : k.b = b) (hs : k.s = s) (hl : len ≤ k.xs.length) (h0 : Fm H k.xs ys0 l0) (h : Fm H xs ys l) :
      Fm H (.own d b s len :: xs) (.lsl (some (b, s)) len ys0 :: ys) (d :: (l0 ++ l))
  | agg (fs gs xs ys : List AV) (l0 l : List Nat) (h0 : Fm H fs gs l0) (h : Fm H xs ys l) : Fm H (.agg fs :: xs) (.agg gs :: ys) (l0 ++ l)

theorem Fm.len {H : Hp} {xs ys : List AV} {l : List Nat} (h : Fm H xs ys l) : xs.length = ys.length := by
  induction h with
  | nil => rfl
  | same _ _ _ _ _ ih => simp [ih]
  | own _ _ _ _ _ _ _ _ _ _ _ _ _ _ _ _ _ ih => simp [ih]
  | agg _ _ _ _ _ _ _ _ _ ih => simp [ih]
theorem Fm.kind {H : Hp} {xs ys : List AV} {l : List Nat} (h : Fm H xs ys l) : ∀ (i : Nat) (x y : AV), xs[i]? = some x → ys[i]? = some y → y.isAgg = x.isAgg ∧ y.sz = x.sz := by
  induction h with
  | nil => intro i x y hx; simp at hx
  | same z _ _ _ _ ih =>
    intro i x y hx hy
    cases i with
    | zero => simp at hx hy; subst hx hy; exact ⟨rfl, rfl⟩
    | succ i => exact ih i x y (by simpa using hx) (by simpa using hy)
  | own _ _ _ _ _ _ _ _ _ _ _ _ _ _ _ _ _ ih =>
    intro i x y hx hy
    cases i with
    | zero => simp at hx hy; subst hx hy; exact ⟨rfl, rfl⟩
    | succ i => exact ih i x y (by simpa using hx) (by simpa using hy)
  | agg _ _ _ _ _ _ h0 _ _ ih =>
    intro i x y hx hy
    cases i with
    | zero => simp at hx hy; subst hx hy; exact ⟨rfl, h0.len.symm⟩
    | succ i => exact ih i x y (by simpa using hx) (by simpa using hy)

section
variable {w0 w : World} {S : Sg} {nt n : Nat} {E : Env} {H H1 : Hp} {a : Act}
theorem Fm.ok {xs ys : List AV} {l : List Nat} (h : SR w0 S nt E H n a w) (hs : ∀ d k, H1 d = some k → H d = some k) (hf : Fm H xs ys l) : ∀ (css : List (List Value)), css.length = xs.length → (∀ d ∈ l, H1 d = none) →
    (∀ (i : Nat) (x : AV) (cs : List Value), xs[i]? = some x → css[i]? = some cs → RC w (Stb w0 S H w) x cs) →
    (∀ (i : Nat) (y : AV) (cs : List Value), ys[i]? = some y → css[i]? = some cs → RC w (Stb w0 S H1 w) y cs) := by
  induction hf with
  | nil => intro css _ _ _ i y cs hy; simp at hy
  | same z xs ys l _ ih =>
    intro css hl hM hr
    cases css with
    | nil => simp at hl
    | cons c css =>
      intro i y cs hy hc
      cases i with
      | zero =>
        obtain rfl : z = y := by simpa using hy
        exact (hr 0 z cs rfl hc).mono (on_same fun g hg => stb_sub hs hg)
      | succ i => exact ih css (by simpa using hl) hM (fun i x cs hx hc => hr (i + 1) x cs (by simpa using hx) (by simpa using hc)) i y cs (by simpa using hy) (by simpa using hc)
  | own d b s len k ys0 xs ys l0 l hk hb hks hl' h0 _ ih0 ih =>
    intro css hl hM hr
    cases css with
    | nil => simp at hl
    | cons c css =>
      intro i y cs hy hc
      cases i with
      | succ i => exact ih css (by simpa using hl) (fun d' hd' => hM d' (by simp [hd'])) (fun i x cs hx hc => hr (i + 1) x cs (by simpa using hx) (by simpa using hc)) i y cs (by simpa using hy) (by simpa using hc)
      | zero =>
        obtain rfl : AV.lsl (some (b, s)) len ys0 = y := by simpa using hy
        obtain rfl : c = cs := by simpa using hc
        subst hb hks
        have hc0 := hr 0 _ c rfl rfl
        cases hc0 with
        | own _ _ _ _ cap hlc hcm hcc =>
        obtain ⟨c', e', hh, hcs⟩ := hcc
        obtain ⟨hlow, hpos, c2, e2, hh2, hlen, _, hall⟩ := h.blk d k hk
        rw [hh2] at hh
        injection hh with hh
        injection hh with hh he _
        subst hh
        have hxc : k.xs.length ≤ cap := by
          rw [hcs] at hlen
          exact Nat.le_of_mul_le_mul_right hlen hpos
        have hd : H1 d = none := hM d (by simp)
        have hT : Stb w0 S H1 w k.b := by
          refine ⟨.inr hlow, (h.blk d k hk).lt, fun d' k' hk' hf he' => ?_⟩
          obtain rfl := h.inj d' d k' k (hs d' k' hk') hk he'
          rw [hd] at hk'
          cases hk'
        let cells : Nat → List Value := fun i => (c2.toList.drop (i * k.s)).take k.s
        have hcell : ∀ (i : Nat) (x : AV), k.xs[i]? = some x → (cells i).length = k.s ∧ RC w (Stb w0 S H w) x (cells i) := by
          intro i x hi
          obtain ⟨cs, h3, h4, h5⟩ := hall i x hi
          have : cells i = cs := by
            apply List.ext_getElem?
            intro j
            simp only [cells, List.getElem?_take, List.getElem?_drop]
            by_cases hj : j < k.s
            · rw [if_pos hj]
              have hj' : j < cs.length := by omega
              have := h5 j cs[j] (List.getElem?_eq_getElem hj')
              rw [List.getElem?_eq_getElem hj', ← this]
              simp
            · rw [if_neg hj, List.getElem?_eq_none (by omega)]
          rw [this]
          exact ⟨h3, h4⟩
        have hyl := h0.len
        have hrow := ih0 ((List.range k.xs.length).map cells) (by simp) (fun d' hd' => hM d' (by simp [hd'])) (fun i x cs hx hc' => by
          have hlt := (List.getElem?_eq_some_iff.1 hx).1
          simp [hlt] at hc'
          subst hc'
          exact (hcell i x hx).2)
        refine RC.lsl (some (k.b, k.s)) len cap k.s ys0 _ cells hlc (by omega) (by omega) hcm (fun _ => ⟨k.b, 0, rfl, hT, fun i x hi => ⟨?_, fun j v hj => ?_⟩⟩) (fun b s' hbs => ?_) (fun i x hi => ?_)
        · have hlt : i < k.xs.length := by rw [hyl]; exact (List.getElem?_eq_some_iff.1 hi).1
          exact (hcell i _ (List.getElem?_eq_getElem hlt)).1
        · simp only [cells, List.getElem?_take, List.getElem?_drop] at hj
          split at hj <;> first | (cases hj; done) | skip
          simp only [World.cell?, hh2, Nat.zero_add]
          simpa using hj
        · obtain ⟨rfl, rfl⟩ : k.b = b ∧ k.s = s' := by simpa using hbs
          exact ⟨rfl, hT, rfl, c2, e2, hh2, hcs⟩
        · have hlt : i < k.xs.length := by rw [hyl]; exact (List.getElem?_eq_some_iff.1 hi).1
          exact hrow i x (cells i) hi (by simp [hlt])
  | agg fs gs xs ys l0 l h0 _ ih0 ih =>
    intro css hl hM hr
    cases css with
    | nil => simp at hl
    | cons c css =>
      intro i y cs hy hc
      cases i with
      | succ i => exact ih css (by simpa using hl) (fun d' hd' => hM d' (by simp [hd'])) (fun i x cs hx hc => hr (i + 1) x cs (by simpa using hx) (by simpa using hc)) i y cs (by simpa using hy) (by simpa using hc)
      | zero =>
        obtain rfl : AV.agg gs = y := by simpa using hy
        obtain rfl : c = cs := by simpa using hc
        have hc0 := hr 0 _ c rfl rfl
        cases hc0 with
        | agg _ _ hl0 hn hrc =>
        have q1 := ih0 (c.map fun u => [u]) (by simp [hl0]) (fun d' hd' => hM d' (by simp [hd'])) (fun i x cs hx hc' => by
          rw [List.getElem?_map] at hc'
          obtain ⟨u, hu, rfl⟩ := Option.map_eq_some_iff.1 hc'
          exact hrc i x u hx hu)
        refine .agg gs c (by rw [← h0.len, hl0]) (fun g hg => ?_) fun i f u hf hu => q1 i f [u] hf (by simp [hu])
        obtain ⟨i, hi⟩ := List.mem_iff_getElem?.1 hg
        have hlt : i < fs.length := by rw [h0.len]; exact (List.getElem?_eq_some_iff.1 hi).1
        rw [(h0.kind i _ g (List.getElem?_eq_getElem hlt) hi).1]
        exact hn _ (List.getElem_mem hlt)
end

/-- Own rows are made firm, those that lie in them too. -/
theorem firm {lo nt n : Nat} {E : Env} {H : Hp} (xs ys : List AV) (ks : List Nat) (ts : List Nat) (hF : Fm H xs ys ks) (hts : ts.length = xs.length) (hE : ∀ (i t : Nat) (x : AV), ts[i]? = some t → xs[i]? = some x → t < nt ∧ E t = x ∧ x.sz ≠ 0) {E' : Env} {H' : Hp}
    (hE' : ∀ t, t < nt → E' t = .undef ∨ E' t = E t ∨ ∃ i : Nat, ts[i]? = some t ∧ ys[i]? = some (E' t)) (hs : ∀ d k, H' d = some k → H d = some k) (hks : ∀ d ∈ ks, H' d = none) : GH lo nt E H n E' H' := by
  intro w0 S a w hlo h
  have hsub := h.sub hs
  have g1 := hF.ok h hs (ts.map fun t => (a.tmps.getD t undef).cells.toList) (by simp [hts]) hks (fun i x cs hx hc => by
    rw [List.getElem?_map] at hc
    obtain ⟨t, ht, rfl⟩ := Option.map_eq_some_iff.1 hc
    obtain ⟨q1, rfl, q3⟩ := hE i t x ht hx
    exact ((h.tm t q1).cells q3).1)
  refine ⟨h.defs, h.size, h.bel, h.nle, h.nge, fun t ht => ?_, hsub.blk, hsub.inj⟩
  rcases hE' t ht with e | e | ⟨i, e1, e2⟩
  · rw [e]; trivial
  · rw [e]; exact hsub.tm t ht
  · have hlt : i < xs.length := by rw [← hts]; exact (List.getElem?_eq_some_iff.1 e1).1
    have hx := List.getElem?_eq_getElem hlt
    obtain ⟨q1, q2, q3⟩ := hE i t _ e1 hx
    refine rv_of_cells (h.tm t q1) (by rw [q2]; exact q3) ?_ (g1 i (E' t) _ e2 (by rw [List.getElem?_map, e1]; rfl))
    rw [q2]
    exact hF.kind i _ _ hx e2
/-- one value is made firm; nothing may be written any more -/
theorem gh_firm1 {l : FuncId → Law} {m : FuncId → LawM} {lo nt n : Nat} {E : Env} {H : Hp} {C : Env → Hp → Prop} (t : Nat) {x y : AV} {ks : List Nat} (hF : Fm H [x] [y] ks) (ht : t < nt) (hE : E t = x) (hz : x.sz ≠ 0) (hk : C (upd E t y) (fun _ => none)) : bgh ⟨l, m, GH lo nt⟩ E H n C := by
  refine ghost_rule (L := ⟨l, m, GH lo nt⟩) (upd E t y) (fun _ => none) (firm [x] [y] ks [t] hF rfl ?_ ?_ ?_ ?_) hk
  · rintro (_ | i) t' x' h1 h2
    · obtain rfl : t = t' := by simpa using h1
      obtain rfl : x = x' := by simpa using h2
      exact ⟨ht, hE, hz⟩
    · simp at h1
  · intro t' _
    by_cases h : t' = t
    · subst h
      exact .inr (.inr ⟨0, rfl, by simp [upd]⟩)
    · exact .inr (.inl (by simp [upd, h]))
  · intro d k hk
    cases hk
  · intro d _
    rfl
/-- one firm value is taken over to be written; of the others those in kp are kept -/
theorem gh_thaw1 {l : FuncId → Law} {m : FuncId → LawM} {lo nt n : Nat} {E : Env} {H H' : Hp} {C : Env → Hp → Prop} (t : Nat) (kp : List Nat) (B : Nat → Prop) {x y : AV} {L : List (Nat × Blk)} (hTw : Tw B [x] [y] L) (ht : t < nt) (hE : E t = x) (hz : x.sz ≠ 0)
    (hB : ∀ p ∈ L, B p.2.b ∧ lo ≤ p.2.b) (hinj : ∀ p ∈ L, ∀ q ∈ L, p.2.b = q.2.b → p.1 = q.1) (hH : ∀ d k, H d = some k → (k.fz = true → ¬ B k.b) ∧ ∀ x ∈ k.xs, Av B x) (hkp : ∀ q ∈ kp, Av B (E q)) (hH' : ∀ d k, H' d = some k → (d, k) ∈ L ∨ H d = some k)
    (hk : C (fun q => if q = t then y else if q ∈ kp then E q else .undef) H') : bgh ⟨l, m, GH lo nt⟩ E H n C := by
  refine ghost_rule (L := ⟨l, m, GH lo nt⟩) _ H' (thaw B [x] [y] L [t] hTw rfl ?_ hB hinj hH ?_ hH') hk
  · rintro (_ | i) t' x' h1 h2
    · obtain rfl : t = t' := by simpa using h1
      obtain rfl : x = x' := by simpa using h2
      exact ⟨ht, hE, hz⟩
    · simp at h1
  · intro t' _
    by_cases h : t' = t
    · subst h
      exact .inr (.inr ⟨0, rfl, by simp⟩)
    · by_cases h2 : t' ∈ kp
      · exact .inr (.inl ⟨by simp [h, h2], hkp t' h2⟩)
      · exact .inl (by simp [h, h2])
theorem gh_id {l : FuncId → Law} {m : FuncId → LawM} {lo nt n : Nat} {E : Env} {H : Hp} {C : Env → Hp → Prop} (hk : C E H) : bgh ⟨l, m, GH lo nt⟩ E H n C := ghost_rule (L := ⟨l, m, GH lo nt⟩) E H gh_refl hk
end Go.AVM
