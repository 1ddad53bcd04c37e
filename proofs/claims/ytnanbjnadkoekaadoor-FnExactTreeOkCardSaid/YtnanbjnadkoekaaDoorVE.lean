/- Calls. -/
import Derived.Test.YtnanbjnadkoekaaDoorVD6
namespace Go.AVM
set_option linter.unusedSimpArgs false
open Go.RowKit
set_option linter.unusedVariables false

def RVs (w : World) (S : Nat → Prop) (xs : List AV) (vs : Array Value) : Prop :=
  vs.size = xs.length ∧ ∀ (i : Nat) (x : AV), xs[i]? = some x → ∃ u, vs[i]? = some u ∧ RV w S x u

/-- P's function f, called with values that read as args, returns a value that reads as some r of which R tells; what was there before stays as it was; the result's rows are new, or lie where the arguments' lie. -/
def OKb (P : Program) (f : FuncId) : Law := fun args R =>
  (∃ fn : Func, P.funcs[f]? = some fn ∧ fn.body.isSome = true ∧ (fn.name == "runtime.NumGoroutine") = false) ∧
  ∀ (w : World) (S : Nat → Prop) (vs : Array Value), (∀ b, S b → b < w.heap.size) → RVs w S args vs →
    Calls P f vs w fun e w' => ∃ v r hi, e = .returned v ∧ w.heap.size ≤ hi ∧ hi ≤ w'.heap.size ∧ R w.heap.size hi r ∧ RV w' (fun b => S b ∨ (w.heap.size ≤ b ∧ b < w'.heap.size)) r v ∧ Below w.heap.size w w'

def gvn (H0 : Hp) (b : Nat) : Prop := ∃ d k, H0 d = some k ∧ k.b = b
/-- The same of a function without a body, that the model answers outright. -/
def OKx (P : Program) (f : FuncId) : Law := fun args R =>
  ∀ (w : World) (S : Nat → Prop) (vs : Array Value), (∀ b, S b → b < w.heap.size) → RVs w S args vs →
    ∃ v r, (callFunc f vs).run P w = .ok (.value v) w ∧ r.scal = true ∧ R w.heap.size w.heap.size r ∧ RV w S r v
def OK (P : Program) (f : FuncId) : Law := fun args R => OKb P f args R ∨ OKx P f args R
/-- The same with blocks that are handed to be written: H0 as they are before, the law's last part as they are behind. -/
def OKM (P : Program) (f : FuncId) : LawM := fun args H0 R =>
  (∃ fn : Func, P.funcs[f]? = some fn ∧ fn.body.isSome = true ∧ (fn.name == "runtime.NumGoroutine") = false) ∧
  ∀ (w : World) (S : Nat → Prop) (vs : Array Value), (∀ b, S b → b < w.heap.size) → RVs w S args vs →
    (∀ d k, H0 d = some k → k.fz = false ∧ BOK w S (fun b => ¬ S b) k) → (∀ d d' k k', H0 d = some k → H0 d' = some k' → k.b = k'.b → d = d') →
    Calls P f vs w fun e w' => ∃ v r hi H', e = .returned v ∧ w.heap.size ≤ hi ∧ hi ≤ w'.heap.size ∧ R w.heap.size hi r H' ∧ RV w' (Stb w ⟨S, gvn H0⟩ H' w') r v ∧
      (∀ d k, H' d = some k → BOK w' (Stb w ⟨S, gvn H0⟩ H' w') (Mine w ⟨S, gvn H0⟩) k) ∧ (∀ d d' k k', H' d = some k → H' d' = some k' → k.b = k'.b → d = d') ∧ Bel w ⟨S, gvn H0⟩ w'
/-- What may be told of a state in other words. -/
def GH (lo nt : Nat) (E : Env) (H : Hp) (n : Nat) (E' : Env) (H' : Hp) : Prop :=
  ∀ (w0 : World) (S : Sg) (a : Act) (w : World), w0.heap.size = lo → SR w0 S nt E H n a w → SR w0 S nt E' H' n a w
abbrev laws (P : Program) (lo nt : Nat) : Laws := ⟨OK P, OKM P, GH lo nt⟩

section
variable {P : Program} {w0 w : World} {S : Sg} {nt n : Nat} {E : Env} {H : Hp} {a : Act} {o : Oper}

/-- what a callee may read: what is stable, and the own rows that it is handed -/
def Sc (w0 : World) (S : Sg) (H : Hp) (w : World) (ks : List Nat) (b : Nat) : Prop := Stb w0 S H w b ∨ ∃ d k, d ∈ ks ∧ H d = some k ∧ k.b = b

theorem sc_mono {ks ks' : List Nat} (h : ∀ d, d ∈ ks → d ∈ ks') : On w w (Sc w0 S H w ks) (Sc w0 S H w ks') :=
  on_same fun g hg => hg.imp id fun ⟨d, k, h1, h2⟩ => ⟨d, k, h d h1, h2⟩
theorem sc_of_stb {ks : List Nat} : On w w (Stb w0 S H w) (Sc w0 S H w ks) := on_same fun g hg => .inl hg

theorem lsl_strip (fl : Bool) {T : Nat → Prop} {t : Option (Nat × Nat)} {len : Nat} {xs : List AV} {v : Value} (h : RC w T (.lsl t len xs) [v]) : RC w T (.lsl none len (if fl = true then xs else xs.take len)) [v] := by
  cases h with
  | lsl t len cap s xs a cells h1 h2 h3 hm hne ht h =>
  cases fl with
  | true => exact RC.lsl none len cap s xs a cells h1 h2 h3 hm hne (by simp) h
  | false =>
  simp only [Bool.false_eq_true, if_false]
  have hget : ∀ (i : Nat) (x : AV), (xs.take len)[i]? = some x → xs[i]? = some x := fun i x hi => by
    rw [List.getElem?_take] at hi
    split at hi
    · exact hi
    · cases hi
  refine RC.lsl none len cap s (xs.take len) a cells h1 (by simp; omega) (by simp; omega) hm (fun hne' => ?_) (by simp) (fun i x hi => h i x (hget i x hi))
  obtain ⟨g, off, ha, hT, hc⟩ := hne (by rintro rfl; simp at hne')
  exact ⟨g, off, ha, hT, fun i x hi => hc i x (hget i x hi)⟩

theorem lptr_rc {x : AV} {cs : List Value} {T : Nat → Prop} {g off : Nat} (hT : T g) (hs : cs.length = x.sz) (hc : ∀ (j : Nat) (v : Value), cs[j]? = some v → w.cell? ⟨g, off + j, none⟩ = some v) (h : RC w T x cs) : RC w T (.lptr x) [.pointer (some ⟨g, off, none⟩)] := RC.lptr x cs g off hT hs hc h

theorem own_read (fl : Bool) {d b s len : Nat} {v : Value} {k : Blk} (h : SR w0 S nt E H n a w) (hu : RV w (Stb w0 S H w) (.own d b s len) v) (hk : H d = some k) (hb : k.b = b) (hs : k.s = s) (hl : len ≤ k.xs.length) :
    RC w (Sc w0 S H w [d]) (.lsl none len (if fl = true then k.xs else k.xs.take len)) [v] := by
  have h1 := own_firm h hu hk hb hs hl
  refine lsl_strip fl (h1.mono (on_same fun g hg => ?_))
  by_cases hg' : Stb w0 S H w g
  · exact .inl hg'
  · refine .inr ⟨d, k, List.mem_singleton.2 rfl, hk, ?_⟩
    by_cases hkb : k.b = g
    · exact hkb
    · exfalso
      refine hg' ⟨hg.1, hg.2.1, fun d' k' hk' hf => ?_⟩
      by_cases hdd : d' = d
      · subst hdd
        rw [hk] at hk'
        obtain rfl := Option.some.inj hk'
        exact hkb
      · refine hg.2.2 d' k' ?_ hf
        unfold updH
        rw [if_neg hdd]
        exact hk'

theorem rd1_ok {fl : Bool} {x : AV} {v : Value} {K : AV → List Nat → Prop} (h : SR w0 S nt E H n a w) (hu : RV w (Stb w0 S H w) x v) (hs : rd1 fl H x K) :
    ∃ x' ks, K x' ks ∧ RC w (Sc w0 S H w ks) x' [v] ∧ x'.isAgg = false ∧ x'.sz = 1 := by
  cases x <;> first | (exact hs.elim) | skip
  · exact ⟨_, [], hs, (hu.cell rfl (by simp [AV.sz])).mono sc_of_stb, rfl, rfl⟩
  · exact ⟨_, [], hs, (hu.cell rfl (by simp [AV.sz])).mono sc_of_stb, rfl, rfl⟩
  · exact ⟨_, [], hs, (hu.cell rfl (by simp [AV.sz])).mono sc_of_stb, rfl, rfl⟩
  · obtain ⟨ad, rfl⟩ := hu.emp_inv
    exact ⟨_, [], hs, RC.lsl none 0 0 0 [] ad (fun _ => []) (Nat.le_refl _) (Nat.le_refl _) (Nat.le_refl _) (Nat.zero_le _) (by simp) (by simp) (by simp), rfl, rfl⟩
  · exact ⟨_, [], hs, (lsl_strip fl (hu.cell rfl (by simp [AV.sz]))).mono sc_of_stb, rfl, rfl⟩
  · obtain ⟨k, hk, hb, hss, hl, hK⟩ := hs
    exact ⟨_, [_], hK, own_read fl h hu hk hb hss hl, rfl, rfl⟩
  · exact ⟨_, [], hs, (hu.cell rfl (by simp [AV.sz])).mono sc_of_stb, rfl, rfl⟩
  · rename_i f cap
    cases cap with
    | nil => exact ⟨_, [], hs, (hu.cell rfl (by simp [AV.sz])).mono sc_of_stb, rfl, rfl⟩
    | cons _ _ => exact hs.elim

theorem rds_ok {fl : Bool} : ∀ (fs : List AV) (cs : List Value) {K : List AV → List Nat → Prop}, SR w0 S nt E H n a w → fs.length = cs.length → (∀ f ∈ fs, f.isAgg = false) → (∀ (i : Nat) (f : AV) (c : Value), fs[i]? = some f → cs[i]? = some c → RC w (Stb w0 S H w) f [c]) → rds fl H fs K →
    ∃ fs' ks, K fs' ks ∧ fs'.length = cs.length ∧ (∀ f ∈ fs', f.isAgg = false) ∧ ∀ (i : Nat) (f : AV) (c : Value), fs'[i]? = some f → cs[i]? = some c → RC w (Sc w0 S H w ks) f [c]
  | [], cs, K, h, hl, _, _, hs => ⟨[], [], hs, hl, by simp, by simp⟩
  | f :: fs, [], K, h, hl, _, _, hs => by simp at hl
  | f :: fs, c :: cs, K, h, hl, hn, hrc, hs => by
    obtain ⟨f', ks, hs1, hr1, hna1, _⟩ := rd1_ok (fl := fl) h ((hrc 0 f c rfl rfl).rv (hn f (List.mem_cons_self))) hs
    obtain ⟨fs', ks', hK, hl2, hn2, hr2⟩ := rds_ok (fl := fl) fs cs h (by simpa using hl) (fun g hg => hn g (List.mem_cons_of_mem _ hg)) (fun i g c' hg hc => hrc (i + 1) g c' hg hc) hs1
    refine ⟨f' :: fs', ks ++ ks', hK, by simpa using hl2, fun g hg => ?_, fun i g c' hg hc => ?_⟩
    · rcases List.mem_cons.1 hg with rfl | hg
      · exact hna1
      · exact hn2 g hg
    · cases i with
      | zero =>
        obtain rfl : f' = g := by simpa using hg
        obtain rfl : c = c' := by simpa using hc
        exact hr1.mono (sc_mono fun d hd => List.mem_append_left _ hd)
      | succ i => exact (hr2 i g c' (by simpa using hg) (by simpa using hc)).mono (sc_mono fun d hd => List.mem_append_right _ hd)

theorem rd2_ok {fl : Bool} {x : AV} {v : Value} {K : AV → List Nat → Prop} (h : SR w0 S nt E H n a w) (hu : RV w (Stb w0 S H w) x v) (hs : rd2 fl H x K) :
    ∃ x' ks, K x' ks ∧ RV w (Sc w0 S H w ks) x' v ∧ (x.isAgg = false → x'.isAgg = false ∧ x'.sz = 1) := by
  cases x with
  | agg fs =>
    obtain ⟨cs, rfl, hl, hn, hrc⟩ := hu.agg_inv
    obtain ⟨fs', ks, hK, h3, h4, h5⟩ := rds_ok (fl := fl) fs cs.toList h (by simpa using hl) hn (fun i f c hf hc => hrc i f c hf (by simpa using hc)) hs
    exact ⟨_, ks, hK, ⟨cs, rfl, .agg _ _ h3 h4 h5⟩, by simp [AV.isAgg]⟩
  | optr d b s i fo =>
    cases fo with
    | some q => exact hs.elim
    | none =>
      obtain ⟨k, hk, rfl, rfl, y, hy, hys, hs⟩ := hs
      obtain ⟨hlow, hpos, c, e, hh, hlen, _, hall⟩ := h.blk d k hk
      obtain ⟨cs, hcl, hrc, hcc⟩ := hall i y hy
      have hv := hu.optr_inv
      subst hv
      have hcell : ∀ (j : Nat) (u : Value), cs[j]? = some u → w.cell? ⟨k.b, i * k.s + j, none⟩ = some u := fun j u hj => by
        simp [World.cell?, hh, hcc j u hj]
      have hT : ∀ ks, Sc w0 S H w (d :: ks) k.b := fun ks => .inr ⟨d, k, List.mem_cons_self, hk, rfl⟩
      cases hya : y.isAgg with
      | true =>
        cases y <;> simp [AV.isAgg] at hya
        cases hrc with
        | agg fs _ hl hn hrcf =>
        obtain ⟨fs', ks, hK, h3, h4, h5⟩ := rds_ok (fl := fl) _ cs h hl hn hrcf hs
        refine ⟨_, _, hK, ?_, fun _ => ⟨rfl, rfl⟩⟩
        have := lptr_rc (w := w) (T := Sc w0 S H w (d :: ks)) (x := .agg fs') (hT ks) (by simp [AV.sz, h3]) hcell (.agg _ _ h3 h4 fun i f c hf hc => (h5 i f c hf hc).mono (sc_mono fun d' hd' => List.mem_cons_of_mem _ hd'))
        simpa [RV, RV0] using this
      | false =>
        have hs' : rd1 fl H y fun y' ks => K (.lptr y') (d :: ks) := by
          cases y <;> first | exact hs | (simp [AV.isAgg] at hya)
        have hz : y.sz = 1 := by
          cases y <;> first | rfl | (exact hs'.elim) | (simp [AV.isAgg] at hya)
        obtain ⟨u, rfl, _⟩ := hrc.len1 hz
        obtain ⟨y', ks, hK, hr1, hna1, hz1⟩ := rd1_ok (fl := fl) h (hrc.rv hya) hs'
        refine ⟨_, _, hK, ?_, fun _ => ⟨rfl, rfl⟩⟩
        have := lptr_rc (w := w) (T := Sc w0 S H w (d :: ks)) (x := y') (hT ks) (by simp [hz1]) hcell (hr1.mono (sc_mono fun d' hd' => List.mem_cons_of_mem _ hd'))
        simpa [RV, RV0] using this
  | _ =>
    obtain ⟨x', ks, hK, hr, h1, h2⟩ := rd1_ok (fl := fl) h hu hs
    exact ⟨x', ks, hK, hr.rv h1, fun _ => ⟨h1, h2⟩⟩

theorem rds2_ok {fl : Bool} : ∀ (fs : List AV) (cs : List Value) {K : List AV → List Nat → Prop}, SR w0 S nt E H n a w → fs.length = cs.length → (∀ f ∈ fs, f.isAgg = false) → (∀ (i : Nat) (f : AV) (c : Value), fs[i]? = some f → cs[i]? = some c → RC w (Stb w0 S H w) f [c]) → rds2 fl H fs K →
    ∃ fs' ks, K fs' ks ∧ fs'.length = cs.length ∧ (∀ f ∈ fs', f.isAgg = false) ∧ ∀ (i : Nat) (f : AV) (c : Value), fs'[i]? = some f → cs[i]? = some c → RC w (Sc w0 S H w ks) f [c]
  | [], cs, K, h, hl, _, _, hs => ⟨[], [], hs, hl, by simp, by simp⟩
  | f :: fs, [], K, h, hl, _, _, hs => by simp at hl
  | f :: fs, c :: cs, K, h, hl, hn, hrc, hs => by
    have hna := hn f (List.mem_cons_self)
    obtain ⟨f', ks, hs1, hr1, hz1⟩ := rd2_ok (fl := fl) h ((hrc 0 f c rfl rfl).rv hna) hs
    obtain ⟨hna1, hz1⟩ := hz1 hna
    obtain ⟨fs', ks', hK, hl2, hn2, hr2⟩ := rds2_ok (fl := fl) fs cs h (by simpa using hl) (fun g hg => hn g (List.mem_cons_of_mem _ hg)) (fun i g c' hg hc => hrc (i + 1) g c' hg hc) hs1
    refine ⟨f' :: fs', ks ++ ks', hK, by simpa using hl2, fun g hg => ?_, fun i g c' hg hc => ?_⟩
    · rcases List.mem_cons.1 hg with rfl | hg
      · exact hna1
      · exact hn2 g hg
    · cases i with
      | zero =>
        obtain rfl : f' = g := by simpa using hg
        obtain rfl : c = c' := by simpa using hc
        exact (hr1.cell hna1 (by omega)).mono (sc_mono fun d hd => List.mem_append_left _ hd)
      | succ i => exact (hr2 i g c' (by simpa using hg) (by simpa using hc)).mono (sc_mono fun d hd => List.mem_append_right _ hd)

theorem rd3_ok {fl : Bool} {x : AV} {v : Value} {K : AV → List Nat → Prop} (h : SR w0 S nt E H n a w) (hu : RV w (Stb w0 S H w) x v) (hs : rd3 fl H x K) :
    ∃ x' ks, K x' ks ∧ RV w (Sc w0 S H w ks) x' v := by
  cases x with
  | fn f cap =>
    obtain ⟨cs, rfl, hl, hn, hrc⟩ := hu.fn_inv
    obtain ⟨cap', ks, hK, hl', hn', hr⟩ := rds2_ok (fl := fl) cap cs h hl hn hrc hs
    exact ⟨_, ks, hK, RC.fn f cap' cs hl' hn' hr⟩
  | old B x =>
    have hu' : RV w (Stb w0 S H w) x v := RV.mono (on_same fun g hg => hg.1) (RVp.rv hu)
    obtain ⟨x', ks, hK, hr, _⟩ := rd2_ok (fl := fl) h hu' hs
    exact ⟨x', ks, hK, hr⟩
  | _ =>
    obtain ⟨x', ks, hK, hr, _⟩ := rd2_ok (fl := fl) h hu hs
    exact ⟨x', ks, hK, hr⟩

theorem rdA_ok {fl : Bool} : ∀ (xs : List AV) (vs : List Value) {K : List AV → List Nat → Prop}, SR w0 S nt E H n a w → xs.length = vs.length → (∀ (i : Nat) (x : AV) (v : Value), xs[i]? = some x → vs[i]? = some v → RV w (Stb w0 S H w) x v) → rdA fl H xs K →
    ∃ ys ks, K ys ks ∧ ys.length = vs.length ∧ ∀ (i : Nat) (x : AV) (v : Value), ys[i]? = some x → vs[i]? = some v → RV w (Sc w0 S H w ks) x v
  | [], vs, K, h, hl, _, hs => ⟨[], [], hs, hl, by simp⟩
  | x :: xs, [], K, h, hl, _, hs => by simp at hl
  | x :: xs, v :: vs, K, h, hl, hrv, hs => by
    obtain ⟨x', ks, hs1, hr1⟩ := rd3_ok (fl := fl) h (hrv 0 x v rfl rfl) hs
    obtain ⟨ys, ks', hK, hl2, hr2⟩ := rdA_ok (fl := fl) xs vs h (by simpa using hl) (fun i y u hy hu => hrv (i + 1) y u hy hu) hs1
    refine ⟨x' :: ys, ks ++ ks', hK, by simpa using hl2, fun i y u hy hu => ?_⟩
    cases i with
    | zero =>
      obtain rfl : x' = y := by simpa using hy
      obtain rfl : v = u := by simpa using hu
      exact hr1.mono (sc_mono fun d hd => List.mem_append_left _ hd)
    | succ i => exact (hr2 i y u (by simpa using hy) (by simpa using hu)).mono (sc_mono fun d hd => List.mem_append_right _ hd)
end
end Go.AVM
