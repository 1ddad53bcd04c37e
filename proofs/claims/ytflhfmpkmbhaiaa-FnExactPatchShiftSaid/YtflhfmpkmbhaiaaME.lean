/- Calls. -/
import Derived.Test.YtflhfmpkmbhaiaaMD
import Derived.OrdersHeld
import Derived.LoopN
namespace Go.AVM
set_option linter.unusedSimpArgs false
open Go.RowKit
set_option linter.unusedVariables false

def RVs (w : World) (S : Nat → Prop) (xs : List AV) (vs : Array Value) : Prop :=
  vs.size = xs.length ∧ ∀ (i : Nat) (x : AV), xs[i]? = some x → ∃ u, vs[i]? = some u ∧ RV w S x u

/-- P's function f, called with values that read as args, returns a value that reads as some r of which R tells; what was there before stays as it was; the result's rows are new, or lie where the arguments' lie. -/
def OKb (P : Program) (f : FuncId) : Law := fun args R =>
  (∃ fn : Func, P.funcs[f]? = some fn ∧ fn.body.isSome = true ∧ (fn.name == "runtime.NumGoroutine") = false) ∧
  ∀ (w : World) (S : Nat → Prop) (vs : Array Value), (∀ b, S b → b < w.heap.size) → RVs w S args vs →
    Calls P f vs w fun e w' => ∃ v r hi, e = .returned v ∧ w.heap.size ≤ hi ∧ hi ≤ w'.heap.size ∧ R w.heap.size hi r ∧ RV w' (fun b => S b ∨ (w.heap.size ≤ b ∧ b < w'.heap.size)) r v ∧ Below w.heap.size w w'

def gvn (H0 : Hp) (b : Nat) : Prop := ∃ d k, H0 d = some k ∧ k.b = b
/-- The same of a function without a body, that the model answers outright. -/
def OKx (P : Program) (f : FuncId) : Law := fun args R =>
  ∀ (w : World) (S : Nat → Prop) (vs : Array Value), (∀ b, S b → b < w.heap.size) → RVs w S args vs →
    ∃ v r, (callFunc f vs).run P w = .ok (.value v) w ∧ r.scal = true ∧ R w.heap.size w.heap.size r ∧ RV w S r v
def OK (P : Program) (f : FuncId) : Law := fun args R => OKb P f args R ∨ OKx P f args R
/-- The same with blocks that are handed to be written: H0 as they are before, the law's last part as they are behind. -/
def OKM (P : Program) (f : FuncId) : LawM := fun args H0 R =>
  (∃ fn : Func, P.funcs[f]? = some fn ∧ fn.body.isSome = true ∧ (fn.name == "runtime.NumGoroutine") = false) ∧
  ∀ (w : World) (S : Nat → Prop) (vs : Array Value), (∀ b, S b → b < w.heap.size) → RVs w S args vs →
    (∀ d k, H0 d = some k → k.fz = false ∧ BOK w S (fun b => ¬ S b) k) → (∀ d d' k k', H0 d = some k → H0 d' = some k' → k.b = k'.b → d = d') →
    Calls P f vs w fun e w' => ∃ v r hi H', e = .returned v ∧ w.heap.size ≤ hi ∧ hi ≤ w'.heap.size ∧ R w.heap.size hi r H' ∧ RV w' (Stb w ⟨S, gvn H0⟩ H' w') r v ∧
      (∀ d k, H' d = some k → BOK w' (Stb w ⟨S, gvn H0⟩ H' w') (Mine w ⟨S, gvn H0⟩) k) ∧ (∀ d d' k k', H' d = some k → H' d' = some k' → k.b = k'.b → d = d') ∧ Bel w ⟨S, gvn H0⟩ w'
/-- What may be told of a state in other words. -/
def GH (lo nt : Nat) (E : Env) (H : Hp) (n : Nat) (E' : Env) (H' : Hp) : Prop :=
  ∀ (w0 : World) (S : Sg) (a : Act) (w : World), w0.heap.size = lo → SR w0 S nt E H n a w → SR w0 S nt E' H' n a w
abbrev laws (P : Program) (lo nt : Nat) : Laws := ⟨OK P, OKM P, GH lo nt⟩

section
variable {P : Program} {w0 w : World} {S : Sg} {nt n : Nat} {E : Env} {H : Hp} {a : Act} {o : Oper}

/-- what a callee may read: what is stable, and the own rows that it is handed -/
def Sc (w0 : World) (S : Sg) (H : Hp) (w : World) (ks : List Nat) (b : Nat) : Prop := Stb w0 S H w b ∨ ∃ d k, d ∈ ks ∧ H d = some k ∧ k.b = b

theorem sc_mono {ks ks' : List Nat} (h : ∀ d, d ∈ ks → d ∈ ks') : On w w (Sc w0 S H w ks) (Sc w0 S H w ks') :=
  on_same fun g hg => hg.imp id fun ⟨d, k, h1, h2⟩ => ⟨d, k, h d h1, h2⟩
theorem sc_of_stb {ks : List Nat} : On w w (Stb w0 S H w) (Sc w0 S H w ks) := on_same fun g hg => .inl hg

theorem lsl_strip (fl : Bool) {T : Nat → Prop} {t : Option (Nat × Nat)} {len : Nat} {xs : List AV} {v : Value} (h : RC w T (.lsl t len xs) [v]) : RC w T (.lsl none len (if fl = true then xs else xs.take len)) [v] := by
  cases h with
  | lsl t len cap s xs a cells h1 h2 h3 hm hne ht h =>
  cases fl with
  | true => exact RC.lsl none len cap s xs a cells h1 h2 h3 hm hne (by simp) h
  | false =>
  simp only [Bool.false_eq_true, if_false]
  have hget : ∀ (i : Nat) (x : AV), (xs.take len)[i]? = some x → xs[i]? = some x := fun i x hi => by
    rw [List.getElem?_take] at hi
    split at hi
    · exact hi
    · cases hi
  refine RC.lsl none len cap s (xs.take len) a cells h1 (by simp; omega) (by simp; omega) hm (fun hne' => ?_) (by simp) (fun i x hi => h i x (hget i x hi))
  obtain ⟨g, off, ha, hT, hc⟩ := hne (by rintro rfl; simp at hne')
  exact ⟨g, off, ha, hT, fun i x hi => hc i x (hget i x hi)⟩

theorem lptr_rc {x : AV} {cs : List Value} {T : Nat → Prop} {g off : Nat} (hT : T g) (hs : cs.length = x.sz) (hc : ∀ (j : Nat) (v : Value), cs[j]? = some v → w.cell? ⟨g, off + j, none⟩ = some v) (h : RC w T x cs) : RC w T (.lptr x) [.pointer (some ⟨g, off, none⟩)] := RC.lptr x cs g off hT hs hc h

theorem own_read (fl : Bool) {d b s len : Nat} {v : Value} {k : Blk} (h : SR w0 S nt E H n a w) (hu : RV w (Stb w0 S H w) (.own d b s len) v) (hk : H d = some k) (hb : k.b = b) (hs : k.s = s) (hl : len ≤ k.xs.length) :
    RC w (Sc w0 S H w [d]) (.lsl none len (if fl = true then k.xs else k.xs.take len)) [v] := by
  have h1 := own_firm h hu hk hb hs hl
  refine lsl_strip fl (h1.mono (on_same fun g hg => ?_))
  by_cases hg' : Stb w0 S H w g
  · exact .inl hg'
  · refine .inr ⟨d, k, List.mem_singleton.2 rfl, hk, ?_⟩
    by_cases hkb : k.b = g
    · exact hkb
    · exfalso
      refine hg' ⟨hg.1, hg.2.1, fun d' k' hk' hf => ?_⟩
      by_cases hdd : d' = d
      · subst hdd
        rw [hk] at hk'
        obtain rfl := Option.some.inj hk'
        exact hkb
      · refine hg.2.2 d' k' ?_ hf
        unfold updH
        rw [if_neg hdd]
        exact hk'

theorem rd1_ok {fl : Bool} {x : AV} {v : Value} {K : AV → List Nat → Prop} (h : SR w0 S nt E H n a w) (hu : RV w (Stb w0 S H w) x v) (hs : rd1 fl H x K) :
    ∃ x' ks, K x' ks ∧ RC w (Sc w0 S H w ks) x' [v] ∧ x'.isAgg = false ∧ x'.sz = 1 := by
  cases x <;> first | (exact hs.elim) | skip
  · exact ⟨_, [], hs, (hu.cell rfl (by simp [AV.sz])).mono sc_of_stb, rfl, rfl⟩
  · exact ⟨_, [], hs, (hu.cell rfl (by simp [AV.sz])).mono sc_of_stb, rfl, rfl⟩
  · exact ⟨_, [], hs, (hu.cell rfl (by simp [AV.sz])).mono sc_of_stb, rfl, rfl⟩
  · obtain ⟨ad, rfl⟩ := hu.emp_inv
    exact ⟨_, [], hs, RC.lsl none 0 0 0 [] ad (fun _ => []) (Nat.le_refl _) (Nat.le_refl _) (Nat.le_refl _) (Nat.zero_le _) (by simp) (by simp) (by simp), rfl, rfl⟩
  · exact ⟨_, [], hs, (lsl_strip fl (hu.cell rfl (by simp [AV.sz]))).mono sc_of_stb, rfl, rfl⟩
  · obtain ⟨k, hk, hb, hss, hl, hK⟩ := hs
    exact ⟨_, [_], hK, own_read fl h hu hk hb hss hl, rfl, rfl⟩
  · exact ⟨_, [], hs, (hu.cell rfl (by simp [AV.sz])).mono sc_of_stb, rfl, rfl⟩
  · rename_i f cap
    cases cap with
    | nil => exact ⟨_, [], hs, (hu.cell rfl (by simp [AV.sz])).mono sc_of_stb, rfl, rfl⟩
    | cons _ _ => exact hs.elim

theorem rds_ok {fl : Bool} : ∀ (fs : List AV) (cs : List Value) {K : List AV → List Nat → Prop}, SR w0 S nt E H n a w → fs.length = cs.length → (∀ f ∈ fs, f.isAgg = false) → (∀ (i : Nat) (f : AV) (c : Value), fs[i]? = some f → cs[i]? = some c → RC w (Stb w0 S H w) f [c]) → rds fl H fs K →
    ∃ fs' ks, K fs' ks ∧ fs'.length = cs.length ∧ (∀ f ∈ fs', f.isAgg = false) ∧ ∀ (i : Nat) (f : AV) (c : Value), fs'[i]? = some f → cs[i]? = some c → RC w (Sc w0 S H w ks) f [c]
  | [], cs, K, h, hl, _, _, hs => ⟨[], [], hs, hl, by simp, by simp⟩
  | f :: fs, [], K, h, hl, _, _, hs => by simp at hl
  | f :: fs, c :: cs, K, h, hl, hn, hrc, hs => by
    obtain ⟨f', ks, hs1, hr1, hna1, _⟩ := rd1_ok (fl := fl) h ((hrc 0 f c rfl rfl).rv (hn f (List.mem_cons_self))) hs
    obtain ⟨fs', ks', hK, hl2, hn2, hr2⟩ := rds_ok (fl := fl) fs cs h (by simpa using hl) (fun g hg => hn g (List.mem_cons_of_mem _ hg)) (fun i g c' hg hc => hrc (i + 1) g c' hg hc) hs1
    refine ⟨f' :: fs', ks ++ ks', hK, by simpa using hl2, fun g hg => ?_, fun i g c' hg hc => ?_⟩
    · rcases List.mem_cons.1 hg with rfl | hg
      · exact hna1
      · exact hn2 g hg
    · cases i with
      | zero =>
        obtain rfl : f' = g := by simpa using hg
        obtain rfl : c = c' := by simpa using hc
        exact hr1.mono (sc_mono fun d hd => List.mem_append_left _ hd)
      | succ i => exact (hr2 i g c' (by simpa using hg) (by simpa using hc)).mono (sc_mono fun d hd => List.mem_append_right _ hd)

theorem rd2_ok {fl : Bool} {x : AV} {v : Value} {K : AV → List Nat → Prop} (h : SR w0 S nt E H n a w) (hu : RV w (Stb w0 S H w) x v) (hs : rd2 fl H x K) :
    ∃ x' ks, K x' ks ∧ RV w (Sc w0 S H w ks) x' v ∧ (x.isAgg = false → x'.isAgg = false ∧ x'.sz = 1) := by
  cases x with
  | agg fs =>
    obtain ⟨cs, rfl, hl, hn, hrc⟩ := hu.agg_inv
    obtain ⟨fs', ks, hK, h3, h4, h5⟩ := rds_ok (fl := fl) fs cs.toList h (by simpa using hl) hn (fun i f c hf hc => hrc i f c hf (by simpa using hc)) hs
    exact ⟨_, ks, hK, ⟨cs, rfl, .agg _ _ h3 h4 h5⟩, by simp [AV.isAgg]⟩
  | optr d b s i fo =>
    cases fo with
    | some q => exact hs.elim
    | none =>
      obtain ⟨k, hk, rfl, rfl, y, hy, hys, hs⟩ := hs
      obtain ⟨hlow, hpos, c, e, hh, hlen, _, hall⟩ := h.blk d k hk
      obtain ⟨cs, hcl, hrc, hcc⟩ := hall i y hy
      have hv := hu.optr_inv
      subst hv
      have hcell : ∀ (j : Nat) (u : Value), cs[j]? = some u → w.cell? ⟨k.b, i * k.s + j, none⟩ = some u := fun j u hj => by
        simp [World.cell?, hh, hcc j u hj]
      have hT : ∀ ks, Sc w0 S H w (d :: ks) k.b := fun ks => .inr ⟨d, k, List.mem_cons_self, hk, rfl⟩
      cases hya : y.isAgg with
      | true =>
        cases y <;> simp [AV.isAgg] at hya
        cases hrc with
        | agg fs _ hl hn hrcf =>
        obtain ⟨fs', ks, hK, h3, h4, h5⟩ := rds_ok (fl := fl) _ cs h hl hn hrcf hs
        refine ⟨_, _, hK, ?_, fun _ => ⟨rfl, rfl⟩⟩
        have := lptr_rc (w := w) (T := Sc w0 S H w (d :: ks)) (x := .agg fs') (hT ks) (by simp [AV.sz, h3]) hcell (.agg _ _ h3 h4 fun i f c hf hc => (h5 i f c hf hc).mono (sc_mono fun d' hd' => List.mem_cons_of_mem _ hd'))
        simpa [RV, RV0] using this
      | false =>
        have hs' : rd1 fl H y fun y' ks => K (.lptr y') (d :: ks) := by
          cases y <;> first | exact hs | (simp [AV.isAgg] at hya)
        have hz : y.sz = 1 := by
          cases y <;> first | rfl | (exact hs'.elim) | (simp [AV.isAgg] at hya)
        obtain ⟨u, rfl, _⟩ := hrc.len1 hz
        obtain ⟨y', ks, hK, hr1, hna1, hz1⟩ := rd1_ok (fl := fl) h (hrc.rv hya) hs'
        refine ⟨_, _, hK, ?_, fun _ => ⟨rfl, rfl⟩⟩
        have := lptr_rc (w := w) (T := Sc w0 S H w (d :: ks)) (x := y') (hT ks) (by simp [hz1]) hcell (hr1.mono (sc_mono fun d' hd' => List.mem_cons_of_mem _ hd'))
        simpa [RV, RV0] using this
  | _ =>
    obtain ⟨x', ks, hK, hr, h1, h2⟩ := rd1_ok (fl := fl) h hu hs
    exact ⟨x', ks, hK, hr.rv h1, fun _ => ⟨h1, h2⟩⟩

theorem rds2_ok {fl : Bool} : ∀ (fs : List AV) (cs : List Value) {K : List AV → List Nat → Prop}, SR w0 S nt E H n a w → fs.length = cs.length → (∀ f ∈ fs, f.isAgg = false) → (∀ (i : Nat) (f : AV) (c : Value), fs[i]? = some f → cs[i]? = some c → RC w (Stb w0 S H w) f [c]) → rds2 fl H fs K →
    ∃ fs' ks, K fs' ks ∧ fs'.length = cs.length ∧ (∀ f ∈ fs', f.isAgg = false) ∧ ∀ (i : Nat) (f : AV) (c : Value), fs'[i]? = some f → cs[i]? = some c → RC w (Sc w0 S H w ks) f [c]
  | [], cs, K, h, hl, _, _, hs => ⟨[], [], hs, hl, by simp, by simp⟩
  | f :: fs, [], K, h, hl, _, _, hs => by simp at hl
  | f :: fs, c :: cs, K, h, hl, hn, hrc, hs => by
    have hna := hn f (List.mem_cons_self)
    obtain ⟨f', ks, hs1, hr1, hz1⟩ := rd2_ok (fl := fl) h ((hrc 0 f c rfl rfl).rv hna) hs
    obtain ⟨hna1, hz1⟩ := hz1 hna
    obtain ⟨fs', ks', hK, hl2, hn2, hr2⟩ := rds2_ok (fl := fl) fs cs h (by simpa using hl) (fun g hg => hn g (List.mem_cons_of_mem _ hg)) (fun i g c' hg hc => hrc (i + 1) g c' hg hc) hs1
    refine ⟨f' :: fs', ks ++ ks', hK, by simpa using hl2, fun g hg => ?_, fun i g c' hg hc => ?_⟩
    · rcases List.mem_cons.1 hg with rfl | hg
      · exact hna1
      · exact hn2 g hg
    · cases i with
      | zero =>
        obtain rfl : f' = g := by simpa using hg
        obtain rfl : c = c' := by simpa using hc
        exact (hr1.cell hna1 (by omega)).mono (sc_mono fun d hd => List.mem_append_left _ hd)
      | succ i => exact (hr2 i g c' (by simpa using hg) (by simpa using hc)).mono (sc_mono fun d hd => List.mem_append_right _ hd)

theorem rd3_ok {fl : Bool} {x : AV} {v : Value} {K : AV → List Nat → Prop} (h : SR w0 S nt E H n a w) (hu : RV w (Stb w0 S H w) x v) (hs : rd3 fl H x K) :
    ∃ x' ks, K x' ks ∧ RV w (Sc w0 S H w ks) x' v := by
  cases x with
  | fn f cap =>
    obtain ⟨cs, rfl, hl, hn, hrc⟩ := hu.fn_inv
    obtain ⟨cap', ks, hK, hl', hn', hr⟩ := rds2_ok (fl := fl) cap cs h hl hn hrc hs
    exact ⟨_, ks, hK, RC.fn f cap' cs hl' hn' hr⟩
  | old B x =>
    have hu' : RV w (Stb w0 S H w) x v := RV.mono (on_same fun g hg => hg.1) (RVp.rv hu)
    obtain ⟨x', ks, hK, hr, _⟩ := rd2_ok (fl := fl) h hu' hs
    exact ⟨x', ks, hK, hr⟩
  | _ =>
    obtain ⟨x', ks, hK, hr, _⟩ := rd2_ok (fl := fl) h hu hs
    exact ⟨x', ks, hK, hr⟩

theorem rdA_ok {fl : Bool} : ∀ (xs : List AV) (vs : List Value) {K : List AV → List Nat → Prop}, SR w0 S nt E H n a w → xs.length = vs.length → (∀ (i : Nat) (x : AV) (v : Value), xs[i]? = some x → vs[i]? = some v → RV w (Stb w0 S H w) x v) → rdA fl H xs K →
    ∃ ys ks, K ys ks ∧ ys.length = vs.length ∧ ∀ (i : Nat) (x : AV) (v : Value), ys[i]? = some x → vs[i]? = some v → RV w (Sc w0 S H w ks) x v
  | [], vs, K, h, hl, _, hs => ⟨[], [], hs, hl, by simp⟩
  | x :: xs, [], K, h, hl, _, hs => by simp at hl
  | x :: xs, v :: vs, K, h, hl, hrv, hs => by
    obtain ⟨x', ks, hs1, hr1⟩ := rd3_ok (fl := fl) h (hrv 0 x v rfl rfl) hs
    obtain ⟨ys, ks', hK, hl2, hr2⟩ := rdA_ok (fl := fl) xs vs h (by simpa using hl) (fun i y u hy hu => hrv (i + 1) y u hy hu) hs1
    refine ⟨x' :: ys, ks ++ ks', hK, by simpa using hl2, fun i y u hy hu => ?_⟩
    cases i with
    | zero =>
      obtain rfl : x' = y := by simpa using hy
      obtain rfl : v = u := by simpa using hu
      exact hr1.mono (sc_mono fun d hd => List.mem_append_left _ hd)
    | succ i => exact (hr2 i y u (by simpa using hy) (by simpa using hu)).mono (sc_mono fun d hd => List.mem_append_right _ hd)
end
end Go.AVM

/- Calls, the law; every operation. -/
namespace Go.AVM
set_option linter.unusedSimpArgs false
open Go.RowKit
set_option linter.unusedVariables false
section
variable {P : Program} {w0 w : World} {S : Sg} {nt n : Nat} {E : Env} {H : Hp} {a : Act} {o : Oper}

theorem frz_get : ∀ (ks : List Nat) (H : Hp) (d : Nat), frz H ks d = if d ∈ ks then (H d).map (fun k => { k with fz := true }) else H d
  | [], H, d => by simp [frz]
  | e :: ks, H, d => by
    have ih := frz_get ks H d
    unfold frz
    cases he : H e with
    | none =>
      simp only [ih, List.mem_cons]
      by_cases hd : d = e
      · subst hd
        simp [he]
      · simp [hd]
    | some k =>
      simp only [updH, List.mem_cons]
      by_cases hd : d = e
      · subst hd
        simp [he]
      · rw [if_neg hd, ih]
        simp [hd]

theorem frz_some {ks : List Nat} {d : Nat} {k' : Blk} (h : frz H ks d = some k') : ∃ k, H d = some k ∧ k'.b = k.b ∧ k'.s = k.s ∧ k'.xs = k.xs ∧ k'.row = k.row ∧ k'.ex = k.ex ∧ ((d ∈ ks ∧ k'.fz = true) ∨ (d ∉ ks ∧ k'.fz = k.fz)) := by
  rw [frz_get] at h
  split at h
  · obtain ⟨k, hk, rfl⟩ := Option.map_eq_some_iff.1 h
    exact ⟨k, hk, rfl, rfl, rfl, rfl, rfl, .inl ⟨by assumption, rfl⟩⟩
  · exact ⟨k', h, rfl, rfl, rfl, rfl, rfl, .inr ⟨by assumption, rfl⟩⟩

theorem stb_frz {ks : List Nat} {g : Nat} (h : Stb w0 S H w g) : Stb w0 S (frz H ks) w g := by
  refine ⟨h.1, h.2.1, fun d k' hk hf => ?_⟩
  obtain ⟨k, hk', hb, _, _, _, _, hor⟩ := frz_some hk
  rcases hor with ⟨_, h'⟩ | ⟨_, h'⟩
  · rw [h'] at hf; cases hf
  · rw [hb]; exact h.2.2 d k hk' (h' ▸ hf)

theorem SR.freeze {ks : List Nat} (h : SR w0 S nt E H n a w) : SR w0 S nt E (frz H ks) n a w := by
  have hon : On w w (Stb w0 S H w) (Stb w0 S (frz H ks) w) := on_same fun g => stb_frz
  refine ⟨h.defs, h.size, h.bel, h.nle, h.nge, fun t ht => (h.tm t ht).mono hon, fun d k' hk => ?_, fun d1 d2 k1 k2 e1 e2 he => ?_⟩
  · obtain ⟨k, hk', hb, hs, hx, _, hex, _⟩ := frz_some hk
    obtain ⟨g1, g2, c, e, g3, g4, g4', g5⟩ := h.blk d k hk'
    refine ⟨by rw [hb]; exact g1, by rw [hs]; exact g2, c, e, by rw [hb]; exact g3, by rw [hx, hs]; exact g4, by rw [hx, hs, hex]; exact g4', fun i x hi => ?_⟩
    rw [hx] at hi
    obtain ⟨cs, g6, g7, g8⟩ := g5 i x hi
    exact ⟨cs, by rw [hs]; exact g6, g7.mono hon, by rw [hs]; exact g8⟩
  · obtain ⟨k1', hk1, hb1, _⟩ := frz_some e1
    obtain ⟨k2', hk2, hb2, _⟩ := frz_some e2
    exact h.inj d1 d2 k1' k2' hk1 hk2 (by rw [← hb1, ← hb2]; exact he)

theorem sc_frz {ks : List Nat} (h : SR w0 S nt E H n a w) {g : Nat} (hg : Sc w0 S H w ks g) : Stb w0 S (frz H ks) w g := by
  rcases hg with hg | ⟨d, k, hd, hk, rfl⟩
  · exact stb_frz hg
  · refine ⟨.inr (h.blk d k hk).low, (h.blk d k hk).lt, fun d' k' hk' hf he => ?_⟩
    obtain ⟨k2, hk2, hb2, _, _, _, _, hor⟩ := frz_some hk'
    rcases hor with ⟨_, h'⟩ | ⟨hn, _⟩
    · rw [h'] at hf; cases hf
    · obtain rfl := h.inj d' d k2 k hk2 hk (by rw [← hb2]; exact he)
      exact hn hd

/-- a value that no row stands behind reads so whatever is stable -/
theorem scal0_rv {T T' : Nat → Prop} {w' : World} {x : AV} {v : Value} (hs : x.scal0 = true) (h : RV0 w T x v) : RV0 w' T' x v := by
  cases x <;> simp [AV.scal0] at hs
  · cases h; exact RC.bool _
  · cases h; exact RC.int _ _
  · cases h; exact RC.str _
theorem scal_rv {T T' : Nat → Prop} {w' : World} {x : AV} {v : Value} (hs : x.scal = true) (h : RV w T x v) : RV w' T' x v := by
  cases x <;> simp [AV.scal] at hs
  · trivial
  · have h : RC w T _ [v] := h
    cases h; exact RC.bool _
  · have h : RC w T _ [v] := h
    cases h; exact RC.int _ _
  · have h : RC w T _ [v] := h
    cases h; exact RC.str _
  · obtain ⟨cs, rfl, hl, hall⟩ := h
    refine ⟨cs, rfl, hl, fun i x hi => ?_⟩
    obtain ⟨u, hu, hr⟩ := hall i x hi
    exact ⟨u, hu, scal0_rv (hs x (List.mem_of_getElem? hi)) hr⟩

theorem scal_rc {T T' : Nat → Prop} {w' : World} {x : AV} {cs : List Value} (hs : x.scal = true) (hz : x.sz = 1) (h : RC w T x cs) : RC w' T' x cs := by
  cases h <;> simp_all [AV.scal, AV.sz]
  · exact RC.bool _
  · exact RC.int _ _
  · exact RC.str _

/-- what lies apart from block b -/
theorem avoid1_rc {T : Nat → Prop} {b : Nat} {x : AV} {cs : List Value} (ha : avoid1 b x) (h : RC w T x cs) : RC w (fun g => T g ∧ g ≠ b) x cs := by
  cases h <;> first | (exact ha.elim) | skip
  · exact RC.bool _
  · exact RC.int _ _
  · exact RC.str _
  · exact RC.emp _
  · rename_i t len cap s xs ad cells h1 h2 h3 hm hne ht h
    obtain ⟨hb, hor⟩ := ha
    refine RC.lsl t len cap s xs ad cells h1 h2 h3 hm (fun hx => ?_) (fun b' s' hbs => ?_) (fun i x hi => ?_)
    · obtain ⟨g, off, hge, hT, hc⟩ := hne hx
      refine ⟨g, off, hge, ⟨hT, ?_⟩, hc⟩
      rcases hor with hor | ⟨hsome, _⟩
      · exact absurd hor hx
      · obtain ⟨⟨b', s'⟩, hbs⟩ := Option.isSome_iff_exists.1 hsome
        obtain ⟨_, _, ha', _⟩ := ht b' s' hbs
        rw [hge] at ha'
        have : g = b' := by simpa using congrArg (Option.map Addr.block) ha'
        rw [this]
        exact hb b' s' hbs
    · obtain ⟨g1, g2, g3⟩ := ht b' s' hbs
      exact ⟨g1, ⟨g2, hb b' s' hbs⟩, g3⟩
    · rcases hor with hor | ⟨_, hall⟩
      · subst hor; simp at hi
      · obtain ⟨g1, g2⟩ := hall x (List.mem_of_getElem? hi)
        exact scal_rc g1 g2 (h i x hi)
theorem avoid_rc {T : Nat → Prop} {b : Nat} {x : AV} {cs : List Value} (ha : avoid b x) (h : RC w T x cs) : RC w (fun g => T g ∧ g ≠ b) x cs := by
  cases x with
  | agg fs =>
    cases h with
    | agg _ _ hl hn h => exact RC.agg fs cs hl hn fun i f c hf hc => avoid1_rc (ha f (List.mem_of_getElem? hf)) (h i f c hf hc)
  | _ => exact avoid1_rc ha h

/-- A result that is taken over as a row of one's own. -/
theorem SR.import {d b s : Nat} {xs : List AV} {x : AV} {u : Value} {T : Nat → Prop} {cap n' : Nat} {w' : World} (h : SR w0 S nt E H n a w) (hn1 : n' ≤ w'.heap.size) (hn2 : w0.heap.size ≤ n') (hb : Below w.heap.size w w') (hs : 0 < s) (hlow : w.heap.size ≤ b) (hav : ∀ x ∈ xs, avoid b x)
    (hT : ∀ g, T g → g ≠ b → Stb w0 S H w g ∨ (w.heap.size ≤ g ∧ g < w'.heap.size))
    (hr : RC w' T (.lsl (some (b, s)) xs.length xs) [.slice (some ⟨b, 0, none⟩) xs.length cap]) (hx : ∀ T', RC w' T' (.own d b s xs.length) [.slice (some ⟨b, 0, none⟩) xs.length cap] → RV w' T' x u) :
    SR w0 S nt (upd E d x) (updH H d (some ⟨b, s, xs, false, true, false⟩)) n' (a.put (some d) u) w' := by
  cases hr with
  | lsl _ _ _ s1 _ _ cells h1 h2 h3 hm hne ht hrc =>
  obtain ⟨hs1, hTb, had, c, e, hh, hcs⟩ := ht b s rfl
  subst hs1
  have hTT : ∀ g, Stb w0 S H w g → Stb w0 S (updH H d (some ⟨b, s, xs, false, true, false⟩)) w' g := fun g hg => by
    refine ⟨hg.1, Nat.lt_of_lt_of_le hg.2.1 hb.size, fun d' k' hk' hf => ?_⟩
    rcases updH_some hk' with ⟨_, he⟩ | ⟨_, he⟩
    · obtain rfl := Option.some.inj he
      have := hg.2.1
      simp only
      omega
    · exact hg.2.2 d' k' he hf
  have hT' : ∀ g, (T g ∧ g ≠ b) → Stb w0 S (updH H d (some ⟨b, s, xs, false, true, false⟩)) w' g := fun g ⟨hg, hgb⟩ => by
    rcases hT g hg hgb with hg | ⟨g1, g2⟩
    · exact hTT g hg
    · refine ⟨.inr (.inr (Nat.le_trans h.bel.size g1)), g2, fun d' k' hk' hf => ?_⟩
      rcases updH_some hk' with ⟨_, he⟩ | ⟨_, he⟩
      · obtain rfl := Option.some.inj he
        exact fun e => hgb e.symm
      · have := (h.blk d' k' he).lt
        omega
  have hon : On w w' (Stb w0 S H w) (Stb w0 S (updH H d (some ⟨b, s, xs, false, true, false⟩)) w') :=
    ⟨fun g hg => ⟨hTT g hg, hb.block g hg.2.1⟩, fun g c' e' hg => ⟨c', (hb.block g (Array.getElem?_eq_some_iff.1 hg).1).trans hg, rfl⟩⟩
  refine h.next (h.bel.on hb) hon hn1 hn2 (hx _ (RC.own d b s xs.length cap h1 hm ⟨c, e, hh, hcs⟩)) (fun d' k' hk' => ?_) (fun d1 d2 k1 k2 e1 e2 he => ?_)
  · rcases updH_some hk' with ⟨_, he⟩ | ⟨_, he⟩
    · obtain rfl := Option.some.inj he
      refine ⟨.inr (Nat.le_trans h.bel.size hlow), hs, c, e, hh, by rw [hcs]; exact Nat.mul_le_mul_right _ h3, by simp, fun i x hi => ?_⟩
      have hne' : xs ≠ [] := by rintro rfl; simp at hi
      obtain ⟨g, off, hge, _, hcell⟩ := hne hne'
      obtain ⟨rfl, rfl⟩ : b = g ∧ 0 = off := by simpa using hge
      obtain ⟨g1, g2⟩ := hcell i x hi
      refine ⟨cells i, g1, (avoid_rc (hav x (List.mem_of_getElem? hi)) (hrc i x hi)).mono (on_same hT'), fun j v hj => ?_⟩
      have := g2 j v hj
      simpa [World.cell?, hh] using this
    · exact (h.blk d' k' he).mono hon (hb.block _ (h.blk d' k' he).lt)
  · rcases updH_some e1 with ⟨h1, g1⟩ | ⟨h1, g1⟩ <;> rcases updH_some e2 with ⟨h2, g2⟩ | ⟨h2, g2⟩
    · rw [h1, h2]
    · obtain rfl := Option.some.inj g1
      have := (h.blk d2 k2 g2).lt
      simp only at he
      omega
    · obtain rfl := Option.some.inj g2
      have := (h.blk d1 k1 g1).lt
      simp only at he
      omega
    · exact h.inj d1 d2 k1 k2 g1 g2 he

theorem inv_call {op : Op} {d : Nat} {f : Opd} {xs : List Opd} {imp fl : Bool} (h : mOp1 P nt op (.call d f xs imp fl) = true) :
    ∃ f' args ts, mOpd nt f' f = true ∧ mOpds nt args xs = true ∧ op = .call { callee := .value f', args := args, argTypes := ts } := by
  cases op <;> first | (simp [mOp2, VOp.base, mOp1] at h; done) | skip
  rename_i c
  obtain ⟨cal, args, ts⟩ := c
  cases cal <;> first | (simp [mOp2, VOp.base, mOp1] at h; done) | skip
  simp only [mOp2, VOp.base, mOp1, Bool.and_eq_true] at h
  exact ⟨_, _, _, h.1, h.2, rfl⟩

theorem SR.raise (h : SR w0 S nt E H n a w) : SR w0 S nt E H w.heap.size a w :=
  ⟨h.defs, h.size, h.bel, Nat.le_refl _, h.bel.size, h.tm, h.blk, h.inj⟩
theorem a_call {d : Nat} {f : Opd} {xs : List Opd} {imp fl : Bool} {K : Env → Hp → Nat → Prop} (h : SR w0 S nt E H n a w) (hm : mOp P nt o (.call d f xs imp fl) = true) (hv : va (laws P w0.heap.size nt) E H n (.call d f xs imp fl) K) : Goes P w0 S nt o a w true K := by
  obtain ⟨h1, h2, h3⟩ := mOp_dst hm rfl
  obtain ⟨f', args, ts, hf, hx, hop⟩ := inv_call h3
  unfold va at hv
  obtain ⟨g, caps, heg, hv⟩ := hv
  have hvf := h.rel.ev hf
  rw [heg] at hvf
  obtain ⟨cs, hav, hcl, hcn, hcr⟩ := hvf.fn_inv
  obtain ⟨hal, har⟩ := h.rel.evs hx
  obtain ⟨ys, ks, ⟨R, hL, hK⟩, hyl, hyr⟩ := rdA_ok (xs.map (ev E) ++ caps) ((args.map a.eval).toList ++ cs) h (by simp [hcl] at hal ⊢; omega) (fun i x v hi hv' => by
    rcases Nat.lt_or_ge i (xs.map (ev E)).length with hlt | hge
    · rw [List.getElem?_append_left hlt] at hi
      obtain ⟨u, hu, hr⟩ := har i x hi
      rw [List.getElem?_append_left (by simp at hal hlt ⊢; omega)] at hv'
      have : u = v := by
        have hv'' : (args.map a.eval)[i]? = some v := by simpa using hv'
        rw [hu] at hv''
        exact Option.some.inj hv''
      subst this
      exact hr
    · rw [List.getElem?_append_right hge] at hi
      rw [List.getElem?_append_right (by simp at hal hge ⊢; omega)] at hv'
      have he : i - (args.map a.eval).toList.length = i - (xs.map (ev E)).length := by simp at hal ⊢; omega
      rw [he] at hv'
      exact (hcr _ x v hi hv').rv (hcn x (List.mem_of_getElem? hi))) hv
  have hvs : RVs w (Sc w0 S H w ks) ys (args.map a.eval ++ cs.toArray) := by
    refine ⟨by simpa using hyl.symm, fun i x hi => ?_⟩
    have hlt : i < ((args.map a.eval).toList ++ cs).length := by rw [← hyl]; exact (List.getElem?_eq_some_iff.1 hi).1
    refine ⟨_, ?_, hyr i x _ hi (List.getElem?_eq_getElem hlt)⟩
    have := List.getElem?_eq_getElem hlt
    rw [← this]
    simp [Array.getElem?_append, List.getElem?_append]
  have hSc : ∀ b, Sc w0 S H w ks b → b < w.heap.size := fun b hb => by
    rcases hb with hb | ⟨d', k, _, hk, rfl⟩
    · exact hb.2.1
    · exact (h.blk d' k hk).lt
  rcases hL with hL | hL
  case inr =>
    obtain ⟨v, r, hr1, hsc, hR, hrv⟩ := hL w (Sc w0 S H w ks) _ hSc hvs
    have hrun : (execOp a.eval o).run P w = .ok (.value v) w := by
      rw [← hr1]
      simp [execOp, hop, resolve, hav, Deferred.ofValue, invoke]
    intro next Q hnext
    unfold Oper.wp
    rw [hrun, Oper.upon_value, h1]
    have hKr := hK _ _ r h.nle (Nat.le_refl _) hR
    rw [if_pos hsc] at hKr
    exact hnext _ _ _ _ _ (h.raise.put (scal_rv hsc hrv)) hKr (fun _ => Below.refl _ _)
  obtain ⟨⟨fn, hfn, hfb, hfname⟩, hcall⟩ := hL
  have hrun : (execOp a.eval o).run P w = .ok (.enter g (args.map a.eval ++ cs.toArray)) w := by
    have hbn : ¬ (fn.body = none) := by
      intro hb
      rw [hb] at hfb
      cases hfb
    have hnm : ¬ (fn.name = "runtime.NumGoroutine") := by simpa using hfname
    simp [execOp, hop, resolve, hav, Deferred.ofValue, invoke, callFunc, hfn, hnm, hbn]
  intro next Q hnext
  unfold Oper.wp
  rw [hrun, Oper.upon_enter, h1]
  refine (hcall w (Sc w0 S H w ks) _ hSc hvs).mono ?_
  rintro e w' ⟨v, r, hi, rfl, hhi1, hhi2, hR, hrv, hb⟩
  have hKr := hK _ _ r h.nle hhi1 hR
  have hge : w0.heap.size ≤ hi := Nat.le_trans h.bel.size hhi1
  have hq := h.quiet_world hb
  by_cases hsc : r.scal = true
  · rw [if_pos hsc] at hKr
    have hq' : SR w0 S nt E H hi a w' := ⟨hq.defs, hq.size, hq.bel, hhi2, hge, hq.tm, hq.blk, hq.inj⟩
    exact hnext _ _ _ _ _ (hq'.put (scal_rv hsc hrv)) hKr (fun _ => hb)
  · rw [if_neg hsc] at hKr
    have hfz := hq.freeze (ks := ks)
    have hfz' : SR w0 S nt E (frz H ks) hi a w' := ⟨hfz.defs, hfz.size, hfz.bel, hhi2, hge, hfz.tm, hfz.blk, hfz.inj⟩
    have hstb : ∀ g, Stb w0 S (frz H ks) w g → Stb w0 S (frz H ks) w' g := fun g hg => ⟨hg.1, Nat.lt_of_lt_of_le hg.2.1 hb.size, hg.2.2⟩
    have hTr : ∀ g, (Sc w0 S H w ks g ∨ (w.heap.size ≤ g ∧ g < w'.heap.size)) → Stb w0 S (frz H ks) w' g := fun g hg => by
      rcases hg with hg | ⟨g1, g2⟩
      · exact hstb g (sc_frz h hg)
      · refine ⟨.inr (.inr (Nat.le_trans h.bel.size g1)), g2, fun d' k' hk' _ => ?_⟩
        obtain ⟨k, hk, hkb, _⟩ := frz_some hk'
        have := (h.blk d' k hk).lt
        omega
    have plain : K (upd E d r) (frz H ks) hi → next (a.put (some d) v) w' := fun hk =>
      hnext _ _ _ _ _ (hfz'.put (hrv.mono (on_same hTr))) hk (fun _ => hb)
    unfold impv at hKr
    split at hKr
    · rename_i b s len xs'
      obtain ⟨rfl, hs0, hlo, hav', hKK⟩ := hKr
      have hrc : RC w' _ (.lsl (some (b, s)) xs'.length xs') [v] := hrv
      have hv0 : ∃ cap, v = .slice (some ⟨b, 0, none⟩) xs'.length cap := by
        obtain ⟨ad, cap, s', cells, hve, _, _, _, _, _, ht, _⟩ := hrv.lsl_inv
        obtain ⟨_, _, had, _⟩ := ht b s rfl
        rw [had] at hve
        exact ⟨cap, hve⟩
      obtain ⟨cap, rfl⟩ := hv0
      refine hnext _ _ _ _ _ (SR.import (x := .own d b s xs'.length) (h.freeze (ks := ks)) hhi2 hge hb hs0 hlo hav' (T := fun g => Sc w0 S H w ks g ∨ (w.heap.size ≤ g ∧ g < w'.heap.size)) (fun g hg _ => ?_) hrc (fun T' hT' => hT')) hKK (fun _ => hb)
      rcases hg with hg | hg
      · exact .inl (sc_frz h hg)
      · exact .inr hg
    · rename_i b s len xs' rest
      obtain ⟨rfl, hs0, hlo, hav', hrest, hKK⟩ := hKr
      obtain ⟨vs, rfl, hvl, hvr⟩ := hrv.tup_inv
      obtain ⟨u, hu, hru⟩ := hvr 0 _ rfl
      have hrc : RC w' _ (.lsl (some (b, s)) xs'.length xs') [u] := hru
      have hv0 : ∃ cap, u = .slice (some ⟨b, 0, none⟩) xs'.length cap := by
        obtain ⟨ad, cap, s', cells, hve, _, _, _, _, _, ht, _⟩ := (RV.of0 hru).lsl_inv
        obtain ⟨_, _, had, _⟩ := ht b s rfl
        rw [had] at hve
        exact ⟨cap, hve⟩
      obtain ⟨cap, rfl⟩ := hv0
      refine hnext _ _ _ _ _ (SR.import (x := .tup (.own d b s xs'.length :: rest)) (h.freeze (ks := ks)) hhi2 hge hb hs0 hlo hav' (T := fun g => Sc w0 S H w ks g ∨ (w.heap.size ≤ g ∧ g < w'.heap.size)) (fun g hg _ => ?_) hrc (fun T' hT' => ?_)) hKK (fun _ => hb)
      · rcases hg with hg | hg
        · exact .inl (sc_frz h hg)
        · exact .inr hg
      · refine ⟨vs, rfl, by simpa using hvl, fun i x hi => ?_⟩
        cases i with
        | zero =>
          obtain rfl : AV.own d b s xs'.length = x := by simpa using hi
          exact ⟨_, hu, hT'⟩
        | succ i =>
          have hi' : rest[i]? = some x := by simpa using hi
          obtain ⟨u', hu', hru'⟩ := hvr (i + 1) x (by simpa using hi')
          obtain ⟨g1, g2⟩ := hrest x (List.mem_of_getElem? hi')
          refine ⟨u', hu', ?_⟩
          have h0 := scal_rv (w' := w') (T' := T') g1 (RV.of0 hru')
          cases x <;> first | exact h0 | exact hru'.elim
    · exact plain hKr

theorem inv_callm {op : Op} {d : Nat} {f : Opd} {xs : List Opd} (h : mOp1 P nt op (.callm d f xs) = true) :
    ∃ f' args ts, mOpd nt f' f = true ∧ mOpds nt args xs = true ∧ op = .call { callee := .value f', args := args, argTypes := ts } := by
  cases op <;> first | (simp [mOp2, VOp.base, mOp1] at h; done) | skip
  rename_i c
  obtain ⟨cal, args, ts⟩ := c
  cases cal <;> first | (simp [mOp2, VOp.base, mOp1] at h; done) | skip
  simp only [mOp2, VOp.base, mOp1, Bool.and_eq_true] at h
  exact ⟨_, _, _, h.1, h.2, rfl⟩

theorem backH_some {G : Nat → Bool} {H H' : Hp} {d : Nat} {k : Blk} (h : backH G H H' d = some k) : (G d = true ∧ H' d = some k) ∨ (G d = false ∧ H d = some k) := by
  unfold backH at h
  cases hg : G d <;> simp_all
theorem givenH_some {G : Nat → Bool} {H : Hp} {d : Nat} {k : Blk} (h : givenH G H d = some k) : G d = true ∧ H d = some k := by
  unfold givenH at h
  cases hg : G d <;> simp_all
theorem givenH_of {G : Nat → Bool} {H : Hp} {d : Nat} {k : Blk} (hg : G d = true) (h : H d = some k) : givenH G H d = some k := by
  unfold givenH
  rw [if_pos hg]
  exact h

/-- A call that is handed rows to write. -/
theorem a_callm {d : Nat} {f : Opd} {xs : List Opd} {K : Env → Hp → Nat → Prop} (h : SR w0 S nt E H n a w) (hm : mOp P nt o (.callm d f xs) = true) (hv : va (laws P w0.heap.size nt) E H n (.callm d f xs) K) : Goes P w0 S nt o a w false K := by
  obtain ⟨h1, h2, h3⟩ := mOp_dst hm rfl
  obtain ⟨f', args, ts, hf, hx, hop⟩ := inv_callm h3
  simp only [va] at hv
  obtain ⟨g, caps, heg, G, R, hL, hfz, hK⟩ := hv
  have hvf := h.rel.ev hf
  rw [heg] at hvf
  obtain ⟨cs, hav, hcl, hcn, hcr⟩ := hvf.fn_inv
  obtain ⟨hal, har⟩ := h.rel.evs hx
  obtain ⟨⟨fn, hfn, hfb, hfname⟩, hcall⟩ := hL
  have hrun : (execOp a.eval o).run P w = .ok (.enter g (args.map a.eval ++ cs.toArray)) w := by
    have hbn : ¬ (fn.body = none) := by
      intro hb
      rw [hb] at hfb
      cases hfb
    have hnm : ¬ (fn.name = "runtime.NumGoroutine") := by simpa using hfname
    simp [execOp, hop, resolve, hav, Deferred.ofValue, invoke, callFunc, hfn, hnm, hbn]
  have hvs : RVs w (Stb w0 S H w) (xs.map (ev E) ++ caps) (args.map a.eval ++ cs.toArray) := by
    refine ⟨by simp [hcl] at hal ⊢; omega, fun i x hi => ?_⟩
    rcases Nat.lt_or_ge i (xs.map (ev E)).length with hlt | hge
    · rw [List.getElem?_append_left hlt] at hi
      obtain ⟨u, hu, hr⟩ := har i x hi
      refine ⟨u, ?_, hr⟩
      rw [Array.getElem?_append_left (by simp at hal hlt ⊢; omega)]
      exact hu
    · rw [List.getElem?_append_right hge] at hi
      have hlt : i - (xs.map (ev E)).length < cs.length := by rw [← hcl]; exact (List.getElem?_eq_some_iff.1 hi).1
      refine ⟨cs[i - (xs.map (ev E)).length], ?_, (hcr _ x _ hi (List.getElem?_eq_getElem hlt)).rv (hcn x (List.mem_of_getElem? hi))⟩
      rw [Array.getElem?_append_right (by simp at hal hge ⊢; omega)]
      have he : i - (args.map a.eval).size = i - (xs.map (ev E)).length := by simp at hal ⊢; omega
      rw [he]
      simp
  have hgS : ∀ b, gvn (givenH G H) b → ¬ Stb w0 S H w b ∧ Mine w0 S b ∧ b < w.heap.size ∧ ∃ d k, G d = true ∧ H d = some k ∧ k.b = b := by
    rintro b ⟨d', k, hk, rfl⟩
    obtain ⟨hg, hk⟩ := givenH_some hk
    exact ⟨fun hs => hs.2.2 d' k hk (hfz d' k hg hk) rfl, (h.blk d' k hk).low, (h.blk d' k hk).lt, d', k, hg, hk, rfl⟩
  intro next Q hnext
  unfold Oper.wp
  rw [hrun, Oper.upon_enter, h1]
  refine (hcall w (Stb w0 S H w) _ Stb.lt hvs (fun d' k hk => ?_) (fun d1 d2 k1 k2 e1 e2 he => h.inj d1 d2 k1 k2 (givenH_some e1).2 (givenH_some e2).2 he)).mono ?_
  · obtain ⟨hg, hk'⟩ := givenH_some hk
    obtain ⟨g1, g2, g3⟩ := h.blk d' k hk'
    exact ⟨hfz d' k hg hk', (hgS k.b ⟨d', k, hk, rfl⟩).1, g2, g3⟩
  rintro e w' ⟨v, r, hi, H', rfl, hhi1, hhi2, hR, hrv, hblk, hinj, hb⟩
  obtain ⟨hkeys, hKr⟩ := hK _ _ r H' h.nle hhi1 hR
  have hmine : ∀ b, Mine w ⟨Stb w0 S H w, gvn (givenH G H)⟩ b → Mine w0 S b := fun b hb' => by
    rcases hb' with hb' | hb'
    · exact (hgS b hb').2.1
    · exact .inr (Nat.le_trans h.bel.size hb')
  have hbel : Bel w0 S w' := by
    refine ⟨hb.os.trans h.bel.os, hb.tape.trans h.bel.tape, hb.output.trans h.bel.output, Nat.le_trans h.bel.size hb.size, fun k hk hn => ?_, fun g' c e hg => ?_⟩
    · refine (hb.block k (Nat.lt_of_lt_of_le hk h.bel.size) fun hg => ?_).trans (h.bel.block k hk hn)
      rcases (hgS k hg).2.1 with h' | h'
      · exact hn h'
      · omega
    · obtain ⟨c1, g1, g2⟩ := h.bel.shape g' c e hg
      obtain ⟨c2, g3, g4⟩ := hb.shape g' c1 e g1
      exact ⟨c2, g3, g4.trans g2⟩
  have hon : On w w' (Stb w0 S H w) (Stb w0 S (backH G H H') w') := by
    refine ⟨fun g' hg => ⟨⟨hg.1, Nat.lt_of_lt_of_le hg.2.1 hb.size, fun d' k hk hf' he => ?_⟩, hb.block g' hg.2.1 fun hg' => (hgS g' hg').1 hg⟩, hb.shape⟩
    rcases backH_some hk with ⟨_, hk⟩ | ⟨_, hk⟩
    · rcases (hblk d' k hk).low with hl | hl
      · rw [he] at hl
        exact (hgS g' hl).1 hg
      · have := hg.2.1
        omega
    · exact hg.2.2 d' k hk hf' he
  have hT : ∀ g', Stb w ⟨Stb w0 S H w, gvn (givenH G H)⟩ H' w' g' → Stb w0 S (backH G H H') w' g' := fun g' hg => by
    refine ⟨?_, hg.2.1, fun d' k hk hf' he => ?_⟩
    · rcases hg.1 with h' | h'
      · exact h'.1
      · exact .inr (hmine g' h')
    · rcases backH_some hk with ⟨_, hk⟩ | ⟨hgd, hk⟩
      · exact hg.2.2 d' k hk hf' he
      · rcases hg.1 with h' | h' | h'
        · exact h'.2.2 d' k hk hf' he
        · obtain ⟨_, _, _, d2, k2, g1, g2, g3⟩ := hgS g' h'
          obtain rfl := h.inj d' d2 k k2 hk g2 (he.trans g3.symm)
          rw [hgd] at g1
          cases g1
        · have := (h.blk d' k hk).lt
          omega
  have hcross : ∀ d1 d2 k1 k2, H' d1 = some k1 → G d2 = false → H d2 = some k2 → k1.b ≠ k2.b := fun d1 d2 k1 k2 e1 e2 e3 he => by
    rcases (hblk d1 k1 e1).low with hl | hl
    · obtain ⟨_, _, _, d3, k3, g1, g2, g3⟩ := hgS _ hl
      obtain rfl := h.inj d3 d2 k3 k2 g2 e3 (g3.trans he)
      rw [e2] at g1
      cases g1
    · have := (h.blk d2 k2 e3).lt
      omega
  refine hnext _ _ _ _ _ (h.next hbel hon hhi2 (Nat.le_trans h.bel.size hhi1) (hrv.mono (on_same hT)) (fun d' k hk => ?_) (fun d1 d2 k1 k2 e1 e2 he => ?_)) hKr (fun h' => by cases h')
  · rcases backH_some hk with ⟨_, hk⟩ | ⟨hgd, hk⟩
    · obtain ⟨g1, g2, g3⟩ := (hblk d' k hk).mono (on_same hT) rfl
      exact ⟨hmine _ g1, g2, g3⟩
    · refine (h.blk d' k hk).mono hon (hb.block _ (h.blk d' k hk).lt fun hg => ?_)
      obtain ⟨_, _, _, d3, k3, g1, g2, g3⟩ := hgS _ hg
      obtain rfl := h.inj d3 d' k3 k g2 hk g3
      rw [hgd] at g1
      cases g1
  · rcases backH_some e1 with ⟨g1, e1⟩ | ⟨g1, e1⟩ <;> rcases backH_some e2 with ⟨g2, e2⟩ | ⟨g2, e2⟩
    · exact hinj d1 d2 k1 k2 e1 e2 he
    · exact absurd he (hcross d1 d2 k1 k2 e1 g2 e2)
    · exact absurd he.symm (hcross d2 d1 k2 k1 e2 g1 e1)
    · exact h.inj d1 d2 k1 k2 e1 e2 he

theorem Goes.conv {g : Bool} {K K' : Env → Hp → Nat → Prop} (h : Goes P w0 S nt o a w g K') (hc : ∀ E' H' n' a' w', SR w0 S nt E' H' n' a' w' → K' E' H' n' → ∃ E2 H2 n2, SR w0 S nt E2 H2 n2 a' w' ∧ K E2 H2 n2) : Goes P w0 S nt o a w g K := by
  intro next Q hnext
  refine h next Q fun E' H' n' a' w' hs hk hb => ?_
  obtain ⟨E2, H2, n2, hs2, hk2⟩ := hc E' H' n' a' w' hs hk
  exact hnext E2 H2 n2 a' w' hs2 hk2 hb
theorem SR.le {n' : Nat} (h : SR w0 S nt E H n a w) (h1 : n' ≤ n) (h2 : w0.heap.size ≤ n') : SR w0 S nt E H n' a w :=
  ⟨h.defs, h.size, h.bel, Nat.le_trans h1 h.nle, h2, h.tm, h.blk, h.inj⟩
theorem a_uem {d s : Nat} {K : Env → Hp → Nat → Prop} (h : SR w0 S nt E H n a w) (hm : mOp P nt o (.uem d s) = true) (hv : va (laws P w0.heap.size nt) E H n (.uem d s) K) : Goes P w0 S nt o a w true K := by
  simp only [va] at hv
  obtain ⟨hH, hK⟩ := hv
  have hm' : mOp P nt o (.bls d s [] true) = true := hm
  have hd := (mOp_dst hm rfl).2.1
  refine Goes.conv (K' := fun E' H' n' => ∃ b, n ≤ b ∧ E' = upd E d (.own d b s 0) ∧ H' = updH H d (some ⟨b, s, [], false, false, true⟩) ∧ n' = b + 1) (a_bls (L := laws P w0.heap.size nt) h hm' ?_) ?_
  · simp only [va, if_true]
    exact ⟨by simp, fun b hb => ⟨b, hb, rfl, rfl, rfl⟩⟩
  · rintro E' H' n' a' w' hs ⟨b, hb, rfl, rfl, rfl⟩
    have hs1 := hs.sub (H1 := H) (fun q k hq => by
      unfold updH
      by_cases e : q = d
      · subst e; rw [hH] at hq; cases hq
      · rw [if_neg e]; exact hq)
    refine ⟨upd E d .emp, H, n, ?_, hK⟩
    have hs2 := hs1.le (n' := n) (by omega) h.nge
    refine ⟨hs2.defs, hs2.size, hs2.bel, hs2.nle, hs2.nge, fun t ht => ?_, hs2.blk, hs2.inj⟩
    have := hs2.tm t ht
    unfold upd at this ⊢
    by_cases e : t = d
    · rw [if_pos e] at this ⊢
      subst e
      have h0 := hs.tm t ht
      unfold upd at h0
      rw [if_pos rfl] at h0
      obtain ⟨cap, hav, hl, hm2, c, e', hh, hcs⟩ := h0.own_inv
      obtain ⟨_, hpos, c2, e2, hh2, _, hex, _⟩ := hs.blk t _ (by unfold updH; rw [if_pos rfl])
      simp only at hh2 hex hpos
      rw [hh2] at hh
      injection hh with hh
      injection hh with hh _ _
      subst hh
      have h1 := hex trivial
      simp only [List.length_nil, Nat.zero_mul] at h1
      rw [hcs] at h1
      have hcap : cap = 0 := by
        rcases Nat.mul_eq_zero.1 h1 with h2 | h2
        · exact h2
        · omega
      subst hcap
      rw [hav]
      exact RC.emp _
    · rw [if_neg e] at this ⊢
      exact this
theorem srcF_of {y : Opd} {ys : List AV} {C : List AV → Prop} (h : srcF (ev E y) = some ys) (hC : C ys) : srcOf E H y C := by
  unfold srcOf
  generalize ev E y = v at *
  cases v <;> simp only [srcF] at h <;> first | (cases h; done) | skip
  · obtain rfl := Option.some.inj h
    exact hC
  · split at h
    · obtain rfl := Option.some.inj h
      exact ⟨by assumption, hC⟩
    · cases h
theorem a_ucl {d s bytes : Nat} {x y : Opd} {K : Env → Hp → Nat → Prop} (h : SR w0 S nt E H n a w) (hm : mOp P nt o (.ucl d s x y bytes) = true) (hv : va (laws P w0.heap.size nt) E H n (.ucl d s x y bytes) K) : Goes P w0 S nt o a w true K := by
  simp only [va] at hv
  obtain ⟨hH, hx, ys, hy, hsz, hb1, hb2, hK0, hK1⟩ := hv
  have hm' : mOp P nt o (.app d s x y bytes true false) = true := hm
  refine Goes.conv (K' := fun E' H' n' => (ys = [] ∧ E' = upd E d .emp ∧ H' = H ∧ n' = n) ∨ (ys ≠ [] ∧ ∃ b, n ≤ b ∧ b < n' ∧ E' = upd E d (.own d b s ys.length) ∧ H' = updH H d (some ⟨b, s, ys, false, true, false⟩))) (a_app (L := laws P w0.heap.size nt) h hm' ?_) ?_
  · unfold va
    refine srcF_of hy ?_
    rw [hx]
    exact ⟨hsz, fun he => .inl ⟨he, rfl, rfl, rfl⟩, fun he => ⟨hb1, hb2, fun b n' g1 g2 => .inr ⟨he, b, g1, g2, rfl, rfl⟩⟩⟩
  · rintro E' H' n' a' w' hs (⟨he, rfl, rfl, rfl⟩ | ⟨he, b, g1, g2, rfl, rfl⟩)
    · exact ⟨_, _, _, hs, hK0 he⟩
    · refine ⟨_, _, n, hs.le (by omega) h.nge, hK1 he b g1 fun q k hq hkb => ?_⟩
      have hqd : q ≠ d := by
        rintro rfl
        rw [hH] at hq
        cases hq
      exact hqd (hs.inj q d k _ (by unfold updH; rw [if_neg hqd]; exact hq) (by unfold updH; rw [if_pos rfl]) hkb)

theorem a_ualc {d s : Nat} {z : AV} {nn : Bool} {K : Env → Hp → Nat → Prop} (h : SR w0 S nt E H n a w) (hm : mOp P nt o (.ualc d s z nn) = true) (hv : va (laws P w0.heap.size nt) E H n (.ualc d s z nn) K) : Goes P w0 S nt o a w true K := by
  simp only [va] at hv
  obtain ⟨hz, _, hK⟩ := hv
  have hm' : mOp P nt o (.alc d s z) = true := hm
  refine Goes.conv (K' := fun E' H' n' => ∃ b, w.heap.size ≤ b ∧ E' = upd E d (.optr d b s 0 none) ∧ H' = updH H d (some ⟨b, s, [z], false, false, false⟩) ∧ n' = b + 1) (a_alc (L := laws P w0.heap.size nt) h.raise hm' ?_) ?_
  · exact ⟨hz, fun b hb => ⟨b, hb, rfl, rfl, rfl⟩⟩
  · rintro E' H' n' a' w' hs ⟨b, hb, rfl, rfl, rfl⟩
    have hn := h.nle
    exact ⟨_, _, n, hs.le (by omega) h.nge, hK b fun q k hq e => by have := (h.blk q k hq).lt; omega⟩
theorem rd1_fr {fl : Bool} {v : AV} {C C' : AV → List Nat → Prop} (h : rd1 fl (fun _ => none) v C) (hc : ∀ a, C a [] → C' a []) : rd1 fl H v C' := by
  cases v with
  | own d b s len => obtain ⟨k, hk, _⟩ := h; cases hk
  | fn f c => cases c with
    | nil => exact hc _ h
    | cons x xs => exact h.elim
  | _ => first | exact hc _ h | exact h.elim
theorem rds_fr {fl : Bool} : ∀ {vs : List AV} {C C' : List AV → List Nat → Prop}, rds fl (fun _ => none) vs C → (∀ a, C a [] → C' a []) → rds fl H vs C'
  | [], _, _, h, hc => hc _ h
  | _ :: _, _, _, h, hc => rd1_fr h fun _ h => rds_fr h fun _ h => hc _ h
theorem rd2_fr {fl : Bool} {v : AV} {C C' : AV → List Nat → Prop} (h : rd2 fl (fun _ => none) v C) (hc : ∀ a, C a [] → C' a []) : rd2 fl H v C' := by
  cases v with
  | agg fs => exact rds_fr h fun _ h => hc _ h
  | optr d b s i f => cases f with
    | none => obtain ⟨k, hk, _⟩ := h; cases hk
    | some f => exact h.elim
  | own d b s len => obtain ⟨k, hk, _⟩ := h; cases hk
  | fn f c => exact rd1_fr (v := .fn f c) h hc
  | _ => first | exact hc _ h | exact h.elim
theorem rds2_fr {fl : Bool} : ∀ {vs : List AV} {C C' : List AV → List Nat → Prop}, rds2 fl (fun _ => none) vs C → (∀ a, C a [] → C' a []) → rds2 fl H vs C'
  | [], _, _, h, hc => hc _ h
  | _ :: _, _, _, h, hc => rd2_fr h fun _ h => rds2_fr h fun _ h => hc _ h
theorem rd3_fr {fl : Bool} {v : AV} {C C' : AV → List Nat → Prop} (h : rd3 fl (fun _ => none) v C) (hc : ∀ a, C a [] → C' a []) : rd3 fl H v C' := by
  cases v with
  | fn f c => exact rds2_fr h fun _ h => hc _ h
  | old n x => exact rd2_fr (v := x) h hc
  | agg fs => exact rd2_fr (v := .agg fs) h hc
  | optr d b s i f => exact rd2_fr (v := .optr d b s i f) h hc
  | own d b s len => exact rd2_fr (v := .own d b s len) h hc
  | _ => first | exact hc _ h | exact h.elim
theorem rdA_fr {fl : Bool} : ∀ {vs : List AV} {C C' : List AV → List Nat → Prop}, rdA fl (fun _ => none) vs C → (∀ a, C a [] → C' a []) → rdA fl H vs C'
  | [], _, _, h, hc => hc _ h
  | _ :: _, _, _, h, hc => rd3_fr h fun _ h => rdA_fr h fun _ h => hc _ h
theorem a_ucall {d : Nat} {f : Opd} {xs : List Opd} {K : Env → Hp → Nat → Prop} (h : SR w0 S nt E H n a w) (hm : mOp P nt o (.ucall d f xs) = true) (hv : va (laws P w0.heap.size nt) E H n (.ucall d f xs) K) : Goes P w0 S nt o a w true K := by
  have hm' : mOp P nt o (.call d f xs false false) = true := hm
  refine a_call h hm' ?_
  simp only [va] at hv ⊢
  obtain ⟨g, caps, hg, hv⟩ := hv
  refine ⟨g, caps, hg, rdA_fr hv fun args ⟨R, hL, hK⟩ => ⟨R, hL, fun lo hi r h1 h2 h3 => ?_⟩⟩
  have := hK lo hi r h1 h2 h3
  split
  · exact this
  · simpa [impv, frz] using this
theorem a_ubld {d : Nat} {xs : List Opd} {K : Env → Hp → Nat → Prop} (h : SR w0 S nt E H n a w) (hm : mOp P nt o (.ubld d xs) = true) (hv : va (laws P w0.heap.size nt) E H n (.ubld d xs) K) : Goes P w0 S nt o a w true K := by
  have hm' : mOp P nt o (.bld d xs) = true := hm
  have hq : vq E H (.bld d xs) (fun d v => K (upd E d v) H n) := hv
  obtain ⟨d, x, u, hd, _, hK, hu, hrun⟩ := vq_sound (K := fun d v => K (upd E d v) H n) h.blk h.rel hm' hq
  exact Goes.value hd (hrun w (fun _ => Below.refl _ _)) (h.put hu) hK (fun _ => Below.refl _ _)

/-- which operations leave all that was there as it was -/
def VOp.grows : VOp → Bool
  | .st _ _ _ => false
  | .app _ _ _ _ _ fr _ => fr
  | .callm _ _ _ => false
  | _ => true

theorem va_sound {vo : VOp} {K : Env → Hp → Nat → Prop} (h : SR w0 S nt E H n a w) (hm : mOp P nt o vo = true) (hv : va (laws P w0.heap.size nt) E H n vo K) : Goes P w0 S nt o a w vo.grows K := by
  have quiet : vq E H vo (fun d v => K (upd E d v) H n) → Goes P w0 S nt o a w vo.grows K := fun hq => by
    obtain ⟨d, x, u, hd, _, hK, hu, hrun⟩ := vq_sound (K := fun d v => K (upd E d v) H n) h.blk h.rel hm hq
    exact Goes.value hd (hrun w (fun _ => Below.refl _ _)) (h.put hu) hK (fun _ => Below.refl _ _)
  cases vo <;> first
    | exact quiet hv
    | exact a_alc h hm hv
    | exact a_box h hm hv
    | exact a_mks h hm hv
    | exact a_bls h hm hv
    | exact a_st h hm hv
    | exact a_app h hm hv
    | exact a_call h hm hv
    | exact a_callm h hm hv
    | exact a_uem h hm hv
    | (exfalso; simp [mOp, mOp2] at hm; done)
    | exact a_ucl h hm hv
    | exact a_ualc h hm hv
    | exact a_ucall h hm hv
    | exact a_ubld h hm hv
end
end Go.AVM

/- Regions: in the order of the text, or in whatever order they may come up. -/
namespace Go.AVM
set_option linter.unusedSimpArgs false
open Go.RowKit
set_option linter.unusedVariables false

def VOp.quiet : VOp → Bool
  | .alc _ _ _ | .box _ _ _ | .mks _ _ _ _ _ | .bls _ _ _ _ | .st _ _ _ | .app _ _ _ _ _ _ _ | .call _ _ _ _ _ | .callm _ _ _ | .uem _ _ | .ucl _ _ _ _ _ | .uend | .ualc _ _ _ _ | .ucall _ _ _ | .ubld _ _ => false
  | _ => true

def mG (P : Program) (nt : Nat) (ops : Array Oper) (i : Nat) (g : GOp) : Bool :=
  match ops[i]? with
  | none => false
  | some o => mOp P nt o g.o && match o.guard, g.g with
    | none, none => true
    | some (j, want), some (t, want') => (match (ops[j]?).bind (·.dst) with | some t' => t == t' && decide (t < nt) | none => false) && want == want'
    | _, _ => false

def mGs (P : Program) (nt : Nat) (ops : Array Oper) : List Nat → List GOp → Bool
  | [], [] => true
  | i :: is, g :: gs => mG P nt ops i g && mGs P nt ops is gs
  | _, _ => false

/-- operation i comes ahead of operation j, by some steps -/
def anc (ops : Array Oper) : Nat → Nat → Nat → Bool
  | 0, _, _ => false
  | n + 1, j, i => match ops[j]? with
    | none => false
    | some o => o.after.any fun e => Region.binds .any e && (e.on == i || anc ops n e.on i)

def freeB (ops : Array Oper) (late : Array Bool) (m : Bool) (listed : Array Bool) (i : Nat) : Bool :=
  match ops[i]? with
  | none => false
  | some oi => (List.range ops.size).all fun j => j == i || listed.getD j true || match ops[j]? with
      | some oj => oj.after.any (fun e => Region.binds .any e && e.on == i) || (oi.apart ops oj && (!m || !late.getD j true || anc ops ops.size j i))
      | none => true

/-- an operation that may come in any order among its likes -/
def VOp.isU : VOp → Bool
  | .uem _ _ | .ucl _ _ _ _ _ | .ualc _ _ _ _ | .ucall _ _ _ | .ubld _ _ => true
  | _ => false
def notT (d : Nat) : Opd → Bool
  | .t n => n != d
  | .c _ => true
def uFree : VOp → VOp → Bool
  | .uem d _, .uem d' _ => d != d'
  | .uem d _, .ucl d' _ x y _ => d != d' && notT d x && notT d y
  | .ucl d _ x y _, .uem d' _ => d != d' && notT d' x && notT d' y
  | .ucl d _ x y _, .ucl d' _ x' y' _ => d != d' && notT d x' && notT d y' && notT d' x && notT d' y
  | .uem d _, .ualc d' s z nn => d != d' && z.sz == s && nn
  | .ucl d _ x y _, .ualc d' s z nn => d != d' && notT d' x && notT d' y && z.sz == s && nn
  | .ubld d xs, .ualc d' s z _ => d != d' && xs.all (notT d') && z.sz == s
  | .ucall d f xs, .ualc d' s z nn => d != d' && notT d' f && xs.all (notT d') && z.sz == s && !nn
  | _, _ => false
def pairsU (ops : Array Oper) : List (Nat × GOp) → Bool
  | [] => true
  | p :: us => us.all (fun q => q.1 != p.1 && (anc ops ops.size q.1 p.1 || uFree p.2.o q.2.o)) && pairsU ops us
def preOk (ops : Array Oper) : Array Bool → List (Nat × GOp) → Bool
  | _, [] => true
  | listed, p :: us => (match ops[p.1]? with | some o => o.after.all (fun e => !Region.binds .any e || listed.getD e.on false) | none => false) && preOk ops (listed.setIfInBounds p.1 true) us
def setAll (listed : Array Bool) (us : List (Nat × GOp)) : Array Bool := us.foldl (fun l p => l.setIfInBounds p.1 true) listed
/-- a run of such operations: all others wait for them -/
def chkU (P : Program) (nt : Nat) (ops : Array Oper) (late : Array Bool) (listed : Array Bool) (us : List (Nat × GOp)) : Bool :=
  us.all (fun p => mG P nt ops p.1 p.2 && p.2.o.isU && p.2.g.isNone && late.getD p.1 true == false && listed.getD p.1 true == false) && pairsU ops us && preOk ops listed us &&
  (List.range ops.size).all (fun j => listed.getD j true || us.any (fun p => p.1 == j) || us.all (fun p => anc ops ops.size j p.1))

def VOp.isEnd : VOp → Bool
  | .uend => true
  | _ => false
theorem VOp.isEnd_spec : ∀ {o : VOp}, o.isEnd = true → o = .uend := by
  intro o h
  cases o <;> first | rfl | cases h
def chkDraw (P : Program) (nt : Nat) (ops : Array Oper) (late : Array Bool) : Array Bool → List (Nat × GOp) → List Nat → List GOp → Bool
  | listed, us, is, [] => is.isEmpty && chkU P nt ops late listed us && (Region.ready .any ops (setAll listed us)).isEmpty
  | listed, us, is, g :: gs =>
    if g.o.isEnd then g.g.isNone && chkU P nt ops late listed us && chkDraw P nt ops late (setAll listed us) [] is gs
    else match is with
      | [] => false
      | i :: is => if g.o.isU && g.g.isNone then chkDraw P nt ops late listed (us ++ [(i, g)]) is gs else
        chkU P nt ops late listed us && mG P nt ops i g && late.getD i true == !g.o.grows && (if g.o.quiet then (Region.ready .any ops (setAll listed us)).contains i && freeB ops late g.o.mem (setAll listed us) i else Region.ready .any ops (setAll listed us) == [i]) && chkDraw P nt ops late ((setAll listed us).setIfInBounds i true) [] is gs

/-- what is listed is listed with all that comes ahead of it -/
def Down (ops : Array Oper) (listed : Array Bool) : Prop :=
  ∀ j o, listed.getD j false = true → ops[j]? = some o → ∀ e ∈ o.after, Region.binds .any e = true → listed.getD e.on false = true

section
variable {P : Program} {ops : Array Oper} {Q : Exit → Act → World → Prop} {late : Array Bool}

theorem Down.none (n : Nat) : Down ops (Array.replicate n false) := by
  intro j o h
  rw [Array.getD_eq_getD_getElem?, Array.getElem?_replicate] at h
  split at h <;> simp at h
theorem Down.set {listed : Array Bool} (h : Down ops listed) {i : Nat} (hi : i ∈ Region.ready .any ops listed) : Down ops (listed.setIfInBounds i true) := by
  intro j o hj ho e he hb
  by_cases hji : i = j
  · subst hji
    obtain ⟨_, o', ho', hall⟩ := mem_ready.1 hi
    rw [ho] at ho'
    obtain rfl := Option.some.inj ho'
    exact getD_set_true (hall e he hb)
  · rw [getD_set_ne false hji] at hj
    exact getD_set_true (h j o hj ho e he hb)
theorem anc_listed {listed : Array Bool} (h : Down ops listed) : ∀ (n j i : Nat) (o : Oper), ops[j]? = some o → (∀ e ∈ o.after, Region.binds .any e = true → listed.getD e.on false = true) → anc ops n j i = true → listed.getD i false = true
  | 0, _, _, _, _, _, ha => by simp [anc] at ha
  | n + 1, j, i, o, ho, hall, ha => by
    simp only [anc, ho] at ha
    obtain ⟨q, hq, h2⟩ := Array.any_eq_true.1 ha
    simp only [Bool.and_eq_true, Bool.or_eq_true, beq_iff_eq] at h2
    have hl := hall _ (Array.getElem_mem hq) h2.1
    rcases h2.2 with h3 | h3
    · rw [← h3]; exact hl
    · cases ho' : ops[(o.after[q]).on]? with
      | none =>
        cases n <;> simp [anc, ho'] at h3
      | some o' => exact anc_listed h n _ i o' ho' (fun e he hb => h _ o' hl ho' e he hb) h3

/-- Whatever order is picked; behind each operation that isn't late, all that was there is as it was. -/
def wpAnyB (P : Program) (ops : Array Oper) (late : Array Bool) (Q : Exit → Act → World → Prop) : Nat → Array Bool → Act → World → Prop
  | 0, listed, a, w => Region.ready .any ops listed = [] ∧ Q .normal a w
  | fuel + 1, listed, a, w => (Region.ready .any ops listed = [] → Q .normal a w) ∧
    ∀ i ∈ Region.ready .any ops listed, wpOp P ops Q i (fun a' w' => (late.getD i true = false → Below w.heap.size w w') ∧ wpAnyB P ops late Q fuel (listed.setIfInBounds i true) a' w') a w

theorem wpAny_of_B : ∀ (fuel : Nat) (listed : Array Bool) (a : Act) (w : World), wpAnyB P ops late Q fuel listed a w → wpAny P .any ops Q fuel listed a w
  | 0, _, _, _, h => h
  | fuel + 1, _, _, _, h => ⟨h.1, fun i hi => wpOp_mono (fun a' w' h' => wpAny_of_B fuel _ a' w' h'.2) (h.2 i hi)⟩

theorem below_trans {w w' w'' : World} (h : Below w.heap.size w w') (h' : Below w'.heap.size w' w'') : Below w.heap.size w w'' := h.trans (h'.mono h.size)

theorem wpAnyB_first {i : Nat} {oi : Oper} {v : Value} {m : Bool} (hi : ops[i]? = some oi) (hsel : ∀ (j : Nat) (o : Oper) cs b, ops[j]? = some o → o.op ≠ .select cs b) (hQ : ∀ c a w, ¬ Q (.panic c) a w) (hlate : late.getD i true = false) (w0 : World) :
    ∀ (fuel : Nat) (listed : Array Bool) (a : Act) (w : World), Down ops listed →
      (∀ j oj, ops[j]? = some oj → j ≠ i → listed.getD j true = false → (∀ e ∈ oj.after, Region.binds .any e = true → e.on ≠ i) → oi.apart ops oj = true ∧ (m = false ∨ late.getD j true = false ∨ anc ops ops.size j i = true)) →
      i ∈ Region.ready .any ops listed → (m = true → Below w0.heap.size w0 w) → YieldsIf P ops (fun w => m = true → Below w0.heap.size w0 w) oi v a →
      wpAnyB P ops late Q fuel (listed.setIfInBounds i true) (a.put oi.dst v) w → wpAnyB P ops late Q (fuel + 1) listed a w := by
  intro fuel
  induction fuel with
  | zero =>
    intro listed a w _ _ hr hS hy H
    refine ⟨fun h => (by rw [h] at hr; cases hr), fun j hj => ?_⟩
    by_cases hji : j = i
    · subst hji; exact hy.wpOp hi hS ⟨fun _ => Below.refl _ _, H⟩
    · have := ready_mono hj hji
      rw [H.1] at this
      cases this
  | succ fuel ih =>
    intro listed a w hdown hfree hr hS hy H
    refine ⟨fun h => (by rw [h] at hr; cases hr), fun j hj => ?_⟩
    by_cases hji : j = i
    · subst hji; exact hy.wpOp hi hS ⟨fun _ => Below.refl _ _, H⟩
    · have h1 := H.2 j (ready_mono hj hji)
      obtain ⟨hjun, oj, hoj, hall⟩ := mem_ready.1 hj
      have hiun : listed.getD i false = false := by
        have h0 := (mem_ready.1 hr).1
        rcases Nat.lt_or_ge i listed.size with h' | h'
        · simpa [h'] using h0
        · simp [Array.getElem?_eq_none h']
      have hnot : ∀ e ∈ oj.after, Region.binds .any e = true → e.on ≠ i := fun e he hb heq => by
        have h1 := hall e he hb
        rw [heq, hiun] at h1
        cases h1
      obtain ⟨hap, hlj⟩ := hfree j oj hoj hji hjun hnot
      have hlj' : m = false ∨ late.getD j true = false := by
        rcases hlj with h | h | h
        · exact .inl h
        · exact .inr h
        · have := anc_listed hdown _ j i oj hoj hall h
          rw [hiun] at this
          cases this
      have h2 := wpOp_putIf hoj hap (fun cs b => hsel i oi cs b hi) (fun cs b => hsel j oj cs b hoj) (fun c a w h => absurd h (hQ c _ w)) hy h1
      refine wpOp_mono (fun a' w' h3 => ?_) h2
      obtain ⟨hy', hb', h4⟩ := h3
      refine ⟨hb', ih (listed.setIfInBounds j true) a' w' (hdown.set hj) (fun k ok hk hki hun hno => ?_) (ready_mono hr (Ne.symm hji)) (fun hm => ?_) hy' ?_⟩
      · refine hfree k ok hk hki ?_ hno
        by_cases hjk : j = k
        · subst hjk; exact hjun
        · rw [getD_set_ne true hjk] at hun; exact hun
      · rcases hlj' with h | h
        · rw [h] at hm; cases hm
        · exact below_trans (hS hm) (hb' h)
      · rw [Array.setIfInBounds_comm _ _ hji]
        exact h4

theorem freeB_spec {i : Nat} {oi : Oper} {m : Bool} {listed : Array Bool} (hi : ops[i]? = some oi) (h : freeB ops late m listed i = true) (j : Nat) (oj : Oper)
    (hj : ops[j]? = some oj) (hne : j ≠ i) (hun : listed.getD j true = false) (hno : ∀ e ∈ oj.after, Region.binds .any e = true → e.on ≠ i) :
    oi.apart ops oj = true ∧ (m = false ∨ late.getD j true = false ∨ anc ops ops.size j i = true) := by
  simp only [freeB, hi, List.all_eq_true, List.mem_range] at h
  have h1 := h j (Array.getElem?_eq_some_iff.1 hj).1
  simp only [hj, Bool.or_eq_true, beq_iff_eq, hne, false_or, hun, Bool.false_eq_true, Bool.and_eq_true, Bool.not_eq_true'] at h1
  rcases h1 with h1 | h1
  · obtain ⟨q, hq, h2⟩ := Array.any_eq_true.1 h1
    simp only [Bool.and_eq_true, beq_iff_eq] at h2
    exact absurd h2.2 (hno _ (Array.getElem_mem hq) h2.1)
  · exact ⟨h1.1, h1.2.elim (fun h => h.elim .inl fun h => .inr (.inl h)) fun h => .inr (.inr h)⟩
end

section
variable {P : Program} {w0 w : World} {S : Sg} {nt n : Nat} {E : Env} {H : Hp} {a : Act} {ops : Array Oper}

theorem SR.yield (h : SR w0 S nt E H n a w) {t : Nat} (ht : t < nt) {b : Bool} (he : E t = .bool b) {j : Nat} (hj : (ops[j]?).bind (·.dst) = some t) : yielded ops a.tmps j = some b := by
  have hv := h.tm t ht
  rw [he] at hv
  have := hv.bool_inv
  unfold yielded
  rw [hj]
  have hlt : t < a.tmps.size := by rw [h.size]; exact ht
  simp only [Option.bind_some]
  rw [Array.getD_eq_getD_getElem?, Array.getElem?_eq_getElem hlt] at this
  rw [Array.getElem?_eq_getElem hlt]
  simp only [Option.getD_some] at this
  rw [this]

theorem SR.yield0 (h : SR w0 S nt E H n a w) {t : Nat} (ht : t < nt) (he : E t = .tup []) {j : Nat} (hj : (ops[j]?).bind (·.dst) = some t) : yielded ops a.tmps j = none := by
  have hv := h.tm t ht
  rw [he] at hv
  obtain ⟨cs, hc, _⟩ := hv
  unfold yielded
  rw [hj]
  have hlt : t < a.tmps.size := by rw [h.size]; exact ht
  simp only [Option.bind_some]
  rw [Array.getD_eq_getD_getElem?, Array.getElem?_eq_getElem hlt] at hc
  rw [Array.getElem?_eq_getElem hlt]
  simp only [Option.getD_some] at hc
  rw [hc]

theorem va_quiet {L : Laws} {vo : VOp} {K : Env → Hp → Nat → Prop} (hq : vo.quiet = true) (h : va L E H n vo K) : vq E H vo (fun d v => K (upd E d v) H n) := by
  cases vo <;> first | exact h | (simp [VOp.quiet] at hq)

/-- One operation under its guard. -/
theorem vgop_sound {i : Nat} {g : GOp} {K : Env → Hp → Nat → Prop} {next : Act → World → Prop} {Q : Exit → Act → World → Prop} (h : SR w0 S nt E H n a w) (hm : mG P nt ops i g = true) (hv : vgop (laws P w0.heap.size nt) E H n g g.o.dst K)
    (hnext : ∀ E' H' n' a' w', SR w0 S nt E' H' n' a' w' → K E' H' n' → (g.o.grows = true → Below w.heap.size w w') → next a' w') : wpOp P ops Q i next a w := by
  unfold mG at hm
  unfold wpOp
  cases ho : ops[i]? with
  | none => rw [ho] at hm; cases hm
  | some o =>
    rw [ho] at hm
    simp only [Bool.and_eq_true] at hm
    obtain ⟨hmo, hmg⟩ := hm
    have run : va (laws P w0.heap.size nt) E H n g.o K → o.wp P a w next Q := fun hva =>
      va_sound h hmo hva next Q fun E' H' n' a' w' h1 h2 h3 => hnext E' H' n' a' w' h1 h2 h3
    dsimp only
    cases hg : o.guard with
    | none =>
      rw [hg] at hmg
      have hw : Region.wanted o (yielded ops a.tmps) = true := by simp [Region.wanted, hg]
      rw [if_pos hw]
      unfold vgop at hv
      cases hgg : g.g with
      | none => rw [hgg] at hv; exact .inl (run hv)
      | some p => rw [hgg] at hmg; cases hmg
    | some jw =>
      obtain ⟨j, want⟩ := jw
      rw [hg] at hmg
      cases hgg : g.g with
      | none => rw [hgg] at hmg; cases hmg
      | some p =>
        obtain ⟨t, want'⟩ := p
        rw [hgg] at hmg
        simp only [Bool.and_eq_true, beq_iff_eq] at hmg
        obtain ⟨hjt, rfl⟩ := hmg
        split at hjt <;> first | (cases hjt; done) | skip
        rename_i t' ht'
        simp only [Bool.and_eq_true, beq_iff_eq, decide_eq_true_eq] at hjt
        obtain ⟨rfl, htn⟩ := hjt
        have skip : (match g.o.dst with | some d => K (upd E d (.tup [])) H n | none => K E H n) → next (a.put o.dst undef) w := fun hv => by
          cases hd : g.o.dst with
          | none =>
            rw [hd] at hv
            have hod : o.dst = none := by
              have hmo' := hmo
              simp only [mOp, hd, Bool.and_eq_true, beq_iff_eq] at hmo'
              exact hmo'.1
            rw [hod]
            exact hnext _ _ _ _ _ h hv fun _ => Below.refl _ _
          | some d =>
            rw [hd] at hv
            obtain ⟨hod, _⟩ := mOp_dst hmo hd
            rw [hod]
            exact hnext _ _ _ _ _ (h.put (x := .tup []) (u := undef) ⟨#[], rfl, rfl, by simp⟩) hv fun _ => Below.refl _ _
        unfold vgop at hv
        rw [hgg] at hv
        dsimp only at hv
        split at hv
        · rename_i b hb
          have hy := h.yield htn hb ht'
          have hw : Region.wanted o (yielded ops a.tmps) = (b == want) := by
            simp [Region.wanted, hg, hy]
          rw [hw]
          by_cases hbw : b = want
          · subst hbw
            rw [if_pos rfl] at hv
            rw [if_pos (by simp)]
            exact .inl (run hv)
          · rw [if_neg hbw] at hv
            rw [if_neg (by simpa using hbw)]
            exact skip hv
        · rename_i hb
          have hy := h.yield0 htn hb ht'
          have hw : Region.wanted o (yielded ops a.tmps) = false := by
            simp [Region.wanted, hg, hy]
          rw [hw, if_neg (by simp)]
          exact skip hv
        · exact hv.elim

theorem vops_sound {K : Env → Hp → Nat → Prop} {Q : Exit → Act → World → Prop} (hQ : ∀ E' H' n' a' w', SR w0 S nt E' H' n' a' w' → K E' H' n' → Q .normal a' w') :
    ∀ (is : List Nat) (gs : List GOp) {E : Env} {H : Hp} {n : Nat} {a : Act} {w : World}, SR w0 S nt E H n a w → mGs P nt ops is gs = true → vops (laws P w0.heap.size nt) gs K E H n → wpOps P ops Q is a w
  | [], [], E, H, n, a, w, h, _, hv => hQ _ _ _ _ _ h hv
  | i :: is, g :: gs, E, H, n, a, w, h, hm, hv => by
    simp only [mGs, Bool.and_eq_true] at hm
    rw [wpOps_cons]
    exact vgop_sound h hm.1 hv fun E' H' n' a' w' h1 h2 _ => vops_sound hQ is gs h1 hm.2 h2
  | [], g :: gs, _, _, _, _, _, _, hm, _ => by simp [mGs] at hm
  | i :: is, [], _, _, _, _, _, _, hm, _ => by simp [mGs] at hm

theorem upd_comm {E : Env} {d d' : Nat} {v v' : AV} (h : d ≠ d') : upd (upd E d v) d' v' = upd (upd E d' v') d v := by
  funext t
  unfold upd
  by_cases h1 : t = d
  · subst h1
    rw [if_neg h, if_pos rfl, if_pos rfl]
  · rw [if_neg h1, if_neg h1]
theorem updH_comm {H : Hp} {d d' : Nat} {v v' : Option Blk} (h : d ≠ d') : updH (updH H d v) d' v' = updH (updH H d' v') d v := by
  funext t
  unfold updH
  by_cases h1 : t = d
  · subst h1
    rw [if_neg h, if_pos rfl, if_pos rfl]
  · rw [if_neg h1, if_neg h1]
theorem ev_upd {E : Env} {d : Nat} {v : AV} {x : Opd} (h : notT d x = true) : ev (upd E d v) x = ev E x := by
  cases x with
  | t n =>
    have : n ≠ d := by simpa [notT] using h
    simp [ev, upd, this]
  | c v => rfl
theorem updH_ne {H : Hp} {d d' : Nat} {v : Option Blk} (h : d' ≠ d) : updH H d v d' = H d' := by
  unfold updH
  rw [if_neg h]
theorem evs_upd {E : Env} {d : Nat} {v : AV} {xs : List Opd} (h : xs.all (notT d) = true) : xs.map (ev (upd E d v)) = xs.map (ev E) :=
  List.map_congr_left fun x hx => ev_upd (List.all_eq_true.1 h x hx)
def Bd (H : Hp) : Prop := ∃ B, ∀ q k, H q = some k → k.b < B
theorem Bd.upd (h : Bd H) (d : Nat) (k : Blk) : Bd (updH H d (some k)) := by
  obtain ⟨B, hB⟩ := h
  refine ⟨max B (k.b + 1), fun q k' hq => ?_⟩
  rcases updH_some hq with ⟨_, e⟩ | ⟨_, e⟩
  · obtain rfl := Option.some.inj e
    omega
  · have := hB q k' e
    omega
theorem va_mono {L : Laws} {o : VOp} {K K' : Env → Hp → Nat → Prop} (hu : o.isU = true) (hb : Bd H) (hv : va L E H n o K) (hk : ∀ E H n, Bd H → K E H n → K' E H n) : va L E H n o K' := by
  cases o <;> first | (cases hu; done) | skip
  · exact ⟨hv.1, hk _ _ _ hb hv.2⟩
  · obtain ⟨h1, h2, ys, h3, h4, h5, h6, h7, h8⟩ := hv
    exact ⟨h1, h2, ys, h3, h4, h5, h6, fun e => hk _ _ _ hb (h7 e), fun e b g1 g2 => hk _ _ _ (hb.upd _ _) (h8 e b g1 g2)⟩
  · obtain ⟨h1, h2, h3⟩ := hv
    exact ⟨h1, h2, fun b hf => hk _ _ _ (hb.upd _ _) (h3 b hf)⟩
  · obtain ⟨g, caps, h1, h2⟩ := hv
    exact ⟨g, caps, h1, rdA_fr h2 fun args ⟨R, q1, q2⟩ => ⟨R, q1, fun lo hi r g1 g2 g3 => hk _ _ _ hb (q2 lo hi r g1 g2 g3)⟩⟩
  · exact ⟨hv.1, hk _ _ _ hb hv.2⟩
/-- which comes first is all the same -/
theorem va_swap {L : Laws} {o o' : VOp} {K : Env → Hp → Nat → Prop} (hf : uFree o o' = true) (hbd : Bd H) (hv : va L E H n o fun E H n => va L E H n o' K) : va L E H n o' fun E H n => va L E H n o K := by
  have fresh : ∃ b, n ≤ b ∧ ∀ q k, H q = some k → k.b ≠ b := by
    obtain ⟨B, hB⟩ := hbd
    exact ⟨max n B, by omega, fun q k hq => by have := hB q k hq; omega⟩
  cases o <;> first | (simp [uFree] at hf; done) | skip
  · rename_i d s
    cases o' <;> first | (simp [uFree] at hf; done) | skip
    · rename_i d' s'
      have hd : d ≠ d' := by simpa [uFree] using hf
      obtain ⟨h1, h2, h3⟩ := hv
      exact ⟨h2, h1, by rw [← upd_comm hd]; exact h3⟩
    · rename_i d' s' x y by'
      simp only [uFree, Bool.and_eq_true, bne_iff_ne, ne_eq] at hf
      obtain ⟨⟨hd, hx⟩, hy⟩ := hf
      obtain ⟨h1, h2, h3, ys, h4, h5, h6, h7, h8, h9⟩ := hv
      rw [ev_upd hx] at h3
      rw [ev_upd hy] at h4
      refine ⟨h2, h3, ys, h4, h5, h6, h7, fun e => ⟨h1, by rw [← upd_comm hd]; exact h8 e⟩, fun e b g1 g2 => ⟨by rw [updH_ne hd]; exact h1, by rw [← upd_comm hd]; exact h9 e b g1 g2⟩⟩
    · rename_i d' s' z nn
      simp only [uFree, Bool.and_eq_true, bne_iff_ne, ne_eq] at hf
      obtain ⟨⟨hd, _⟩, _⟩ := hf
      obtain ⟨h1, h2, h3, h4⟩ := hv
      exact ⟨h2, h3, fun b hb => ⟨by rw [updH_ne hd]; exact h1, by rw [← upd_comm hd]; exact h4 b hb⟩⟩
  · rename_i d s x y by'
    cases o' <;> first | (simp [uFree] at hf; done) | skip
    · rename_i d' s'
      simp only [uFree, Bool.and_eq_true, bne_iff_ne, ne_eq] at hf
      obtain ⟨⟨hd, hx⟩, hy⟩ := hf
      obtain ⟨h1, h2, ys, h4, h5, h6, h7, h8, h9⟩ := hv
      have hd' : d' ≠ d := fun e => hd e.symm
      have hH : H d' = none := by
        by_cases e : ys = []
        · exact (h8 e).1
        · obtain ⟨b, hb⟩ := fresh
          have := (h9 e b hb.1 hb.2).1
          rwa [updH_ne hd'] at this
      refine ⟨hH, h1, by rw [ev_upd hx]; exact h2, ys, by rw [ev_upd hy]; exact h4, h5, h6, h7, fun e => ?_, fun e b g1 g2 => ?_⟩
      · rw [← upd_comm hd]; exact (h8 e).2
      · rw [← upd_comm hd]; exact (h9 e b g1 g2).2
    · rename_i d' s' x' y' by''
      simp only [uFree, Bool.and_eq_true, bne_iff_ne, ne_eq] at hf
      obtain ⟨⟨⟨⟨hd, hx'⟩, hy'⟩, hx⟩, hy⟩ := hf
      obtain ⟨h1, h2, ys, h4, h5, h6, h7, h8, h9⟩ := hv
      have hd' : d' ≠ d := fun e => hd e.symm
      obtain ⟨b0, hb0⟩ := fresh
      obtain ⟨hH, hx0, ys', hy0, g5, g6, g7⟩ : H d' = none ∧ ev E x' = .emp ∧ ∃ ys', srcF (ev E y') = some ys' ∧ (∀ z ∈ ys', z.sz = s') ∧ ys'.length * by'' ≤ 140737488355328 ∧ ys'.length ≤ 140737488355328 := by
        by_cases e : ys = []
        · obtain ⟨q1, q2, ys', q3, q4, q5, q6, _⟩ := h8 e
          rw [ev_upd hx'] at q2
          rw [ev_upd hy'] at q3
          exact ⟨q1, q2, ys', q3, q4, q5, q6⟩
        · obtain ⟨q1, q2, ys', q3, q4, q5, q6, _⟩ := h9 e b0 hb0.1 hb0.2
          rw [updH_ne hd'] at q1
          rw [ev_upd hx'] at q2
          rw [ev_upd hy'] at q3
          exact ⟨q1, q2, ys', q3, q4, q5, q6⟩
      have same : ∀ {E1 : Env} {H1 : Hp} {v : AV} (_ : E1 = upd E d v) {K1 K2 : List AV → Prop}, (∃ zs, srcF (ev E1 y') = some zs ∧ K1 zs) → K1 ys' := by
        rintro E1 H1 v rfl K1 K2 ⟨zs, q1, q2⟩
        rw [ev_upd hy', hy0] at q1
        obtain rfl := Option.some.inj q1
        exact q2
      refine ⟨hH, hx0, ys', hy0, g5, g6, g7, fun e' => ?_, fun e' b' q1 q2 => ?_⟩
      · refine ⟨h1, by rw [ev_upd hx]; exact h2, ys, by rw [ev_upd hy]; exact h4, h5, h6, h7, fun e => ?_, fun e b r1 r2 => ?_⟩
        · obtain ⟨_, _, zs, z1, _, _, _, z2, _⟩ := h8 e
          rw [ev_upd hy', hy0] at z1
          obtain rfl := Option.some.inj z1
          rw [← upd_comm hd]
          exact z2 e'
        · obtain ⟨_, _, zs, z1, _, _, _, z2, _⟩ := h9 e b r1 r2
          rw [ev_upd hy', hy0] at z1
          obtain rfl := Option.some.inj z1
          rw [← upd_comm hd]
          exact z2 e'
      · refine ⟨by rw [updH_ne hd]; exact h1, by rw [ev_upd hx]; exact h2, ys, by rw [ev_upd hy]; exact h4, h5, h6, h7, fun e => ?_, fun e b r1 r2 => ?_⟩
        · obtain ⟨_, _, zs, z1, _, _, _, _, z2⟩ := h8 e
          rw [ev_upd hy', hy0] at z1
          obtain rfl := Option.some.inj z1
          rw [← upd_comm hd]
          exact z2 e' b' q1 q2
        · have hne : b' ≠ b := r2 d' _ (by unfold updH; rw [if_pos rfl])
          obtain ⟨_, _, zs, z1, _, _, _, _, z2⟩ := h9 e b r1 fun q k hq => by
            by_cases hqd : q = d'
            · subst hqd
              rw [hH] at hq
              cases hq
            · exact r2 q k (by rw [updH_ne hqd]; exact hq)
          rw [ev_upd hy', hy0] at z1
          obtain rfl := Option.some.inj z1
          rw [← upd_comm hd, ← updH_comm hd]
          exact z2 e' b' q1 fun q k hq => by
            rcases updH_some hq with ⟨_, hk⟩ | ⟨_, hq⟩
            · obtain rfl := Option.some.inj hk
              exact fun e => hne e.symm
            · exact q2 q k hq
    · rename_i d' s' z nn
      simp only [uFree, Bool.and_eq_true, bne_iff_ne, ne_eq, beq_iff_eq] at hf
      obtain ⟨⟨⟨⟨hd, hx⟩, hy⟩, hz⟩, hnn⟩ := hf
      subst hnn
      obtain ⟨h1, h2, ys, h4, h5, h6, h7, h8, h9⟩ := hv
      have hd' : d' ≠ d := fun e => hd e.symm
      have hH : H d' = none := by
        by_cases e : ys = []
        · exact (h8 e).2.1 rfl
        · obtain ⟨b, hb⟩ := fresh
          have := (h9 e b hb.1 hb.2).2.1 rfl
          rwa [updH_ne hd'] at this
      refine ⟨hz, fun _ => hH, fun b' q2 => ⟨by rw [updH_ne hd]; exact h1, by rw [ev_upd hx]; exact h2, ys, by rw [ev_upd hy]; exact h4, h5, h6, h7, fun e => ?_, fun e b r1 r2 => ?_⟩⟩
      · rw [← upd_comm hd]
        exact (h8 e).2.2 b' q2
      · have hne : b' ≠ b := r2 d' _ (by unfold updH; rw [if_pos rfl])
        have := (h9 e b r1 fun q k hq => by
          by_cases hqd : q = d'
          · subst hqd
            rw [hH] at hq
            cases hq
          · exact r2 q k (by rw [updH_ne hqd]; exact hq)).2.2 b' fun q k hq => by
            rcases updH_some hq with ⟨_, hk⟩ | ⟨_, hq⟩
            · obtain rfl := Option.some.inj hk
              exact fun e => hne e.symm
            · exact q2 q k hq
        rw [← upd_comm hd, ← updH_comm hd]
        exact this
  · rename_i d f xs
    cases o' <;> first | (simp [uFree] at hf; done) | skip
    rename_i d' s' z nn
    simp only [uFree, Bool.and_eq_true, bne_iff_ne, ne_eq, beq_iff_eq, Bool.not_eq_true'] at hf
    obtain ⟨⟨⟨⟨hd, hx⟩, hy⟩, hz⟩, hnn⟩ := hf
    subst hnn
    obtain ⟨g, caps, h1, h2⟩ := hv
    refine ⟨hz, fun h => (by cases h), fun b hb => ⟨g, caps, by rw [ev_upd hx]; exact h1, ?_⟩⟩
    rw [evs_upd hy]
    refine rdA_fr h2 fun args ⟨R, q1, q2⟩ => ⟨R, q1, fun lo hi r g1 g2 g3 => ?_⟩
    rw [← upd_comm hd]
    exact (q2 lo hi r g1 g2 g3).2.2 b hb
  · rename_i d xs
    cases o' <;> first | (simp [uFree] at hf; done) | skip
    rename_i d' s' z nn
    simp only [uFree, Bool.and_eq_true, bne_iff_ne, ne_eq, beq_iff_eq] at hf
    obtain ⟨⟨hd, hy⟩, hz⟩ := hf
    obtain ⟨h1, h2, h3, h4⟩ := hv
    refine ⟨hz, h3, fun b hb => ⟨by rw [evs_upd hy]; exact h1, ?_⟩⟩
    rw [evs_upd hy, ← upd_comm hd]
    exact h4 b hb
theorem bubble {L : Laws} {K : Env → Hp → Nat → Prop} (g : GOp) (hg : g.o.isU = true ∧ g.g = none) (post : List GOp) : ∀ (pre : List GOp), (∀ p ∈ pre, p.o.isU = true ∧ p.g = none ∧ uFree p.o g.o = true) → ∀ {E : Env} {H : Hp} {n : Nat}, Bd H → vops L (pre ++ g :: post) K E H n → vops L (g :: (pre ++ post)) K E H n
  | [], _, E, H, n, _, h => h
  | p :: pre, hp, E, H, n, hb, h => by
    obtain ⟨h1, h2, h3⟩ := hp p List.mem_cons_self
    have h' : va L E H n p.o fun E H n => vops L (pre ++ g :: post) K E H n := by
      simpa [vops, vgop, h2] using h
    have h4 := va_mono h1 hb h' fun E H n hb hv => bubble g hg post pre (fun q hq => hp q (List.mem_cons_of_mem _ hq)) hb hv
    have h5 : va L E H n p.o fun E H n => va L E H n g.o fun E H n => vops L (pre ++ post) K E H n := by
      simpa [vops, vgop, hg.2] using h4
    have h6 := va_swap h3 hb h5
    simpa [vops, vgop, hg.2, h2] using h6
theorem SR.bd (h : SR w0 S nt E H n a w) : Bd H := ⟨w.heap.size, fun q k hq => (h.blk q k hq).lt⟩

theorem setAll_app (listed : Array Bool) (us vs : List (Nat × GOp)) : setAll listed (us ++ vs) = setAll (setAll listed us) vs := by simp [setAll]
theorem setAll_set (listed : Array Bool) (i : Nat) (us : List (Nat × GOp)) : (setAll listed us).setIfInBounds i true = setAll (listed.setIfInBounds i true) us := by
  induction us generalizing listed with
  | nil => rfl
  | cons p us ih =>
    simp only [setAll, List.foldl_cons] at ih ⊢
    rw [ih]
    by_cases h : p.1 = i
    · rw [h]
    · rw [Array.setIfInBounds_comm _ _ h]
theorem pairsU_sub : ∀ {pre : List (Nat × GOp)} {p : Nat × GOp} {post : List (Nat × GOp)}, pairsU ops (pre ++ p :: post) = true → pairsU ops (pre ++ post) = true ∧ (∀ q ∈ pre, q.1 ≠ p.1 ∧ (anc ops ops.size p.1 q.1 = true ∨ uFree q.2.o p.2.o = true)) ∧ ∀ q ∈ post, q.1 ≠ p.1 := by
  intro pre p post h
  induction pre with
  | nil =>
    simp only [List.nil_append, pairsU, Bool.and_eq_true, List.all_eq_true, bne_iff_ne, ne_eq] at h
    exact ⟨h.2, by simp, fun q hq => (h.1 q hq).1⟩
  | cons q pre ih =>
    simp only [List.cons_append, pairsU, Bool.and_eq_true, List.all_eq_true, Bool.or_eq_true, bne_iff_ne, ne_eq] at h
    obtain ⟨h1, h2, h3⟩ := ih h.2
    refine ⟨?_, fun r hr => ?_, h3⟩
    · simp only [List.cons_append, pairsU, Bool.and_eq_true, List.all_eq_true, Bool.or_eq_true, bne_iff_ne, ne_eq]
      refine ⟨fun r hr => h.1 r ?_, h1⟩
      rcases List.mem_append.1 hr with hr | hr
      · exact List.mem_append_left _ hr
      · exact List.mem_append_right _ (List.mem_cons_of_mem _ hr)
    · rcases List.mem_cons.1 hr with rfl | hr
      · obtain ⟨g1, g2⟩ := h.1 p (List.mem_append_right _ List.mem_cons_self)
        exact ⟨fun e => g1 e.symm, g2⟩
      · exact h2 r hr
theorem preOk_step : ∀ {pre : List (Nat × GOp)} {p : Nat × GOp} {post : List (Nat × GOp)} {listed : Array Bool}, preOk ops listed (pre ++ p :: post) = true → preOk ops (listed.setIfInBounds p.1 true) (pre ++ post) = true := by
  intro pre p post
  induction pre with
  | nil =>
    intro listed h
    simp only [List.nil_append, preOk, Bool.and_eq_true] at h
    exact h.2
  | cons q pre ih =>
    intro listed h
    simp only [List.cons_append, preOk, Bool.and_eq_true] at h ⊢
    refine ⟨?_, ?_⟩
    · cases ho : ops[q.1]? with
      | none => rw [ho] at h; exact absurd h.1 (by simp)
      | some o =>
        rw [ho] at h
        simp only [Array.all_eq_true, Bool.or_eq_true, Bool.not_eq_true'] at h ⊢
        intro i hi
        exact (h.1 i hi).imp id fun h' => getD_set_true h'
    · by_cases e : q.1 = p.1
      · have := ih h.2
        rw [e] at this ⊢
        exact this
      · rw [Array.setIfInBounds_comm _ _ (fun h => e h.symm)]
        exact ih h.2
structure UOK (P : Program) (nt : Nat) (ops : Array Oper) (late listed : Array Bool) (us : List (Nat × GOp)) : Prop where
  each : ∀ p ∈ us, mG P nt ops p.1 p.2 = true ∧ p.2.o.isU = true ∧ p.2.g = none ∧ late.getD p.1 true = false ∧ listed.getD p.1 true = false
  pairs : pairsU ops us = true
  rest : ∀ j, j < ops.size → listed.getD j true = true ∨ (∃ p ∈ us, p.1 = j) ∨ ∀ p ∈ us, anc ops ops.size j p.1 = true
  pre : preOk ops listed us = true
theorem chkU_spec {late listed : Array Bool} {us : List (Nat × GOp)} (h : chkU P nt ops late listed us = true) : UOK P nt ops late listed us := by
  simp only [chkU, Bool.and_eq_true, List.all_eq_true, beq_iff_eq, Option.isNone_iff_eq_none, List.mem_range, Bool.or_eq_true, List.any_eq_true] at h
  obtain ⟨⟨⟨h1, h2⟩, h3⟩, h4⟩ := h
  refine ⟨fun p hp => ?_, h2, fun j hj => ?_, h3⟩
  · obtain ⟨⟨⟨⟨a1, a2⟩, a3⟩, a4⟩, a5⟩ := h1 p hp
    exact ⟨a1, a2, a3, a4, a5⟩
  · rcases h4 j hj with (h | ⟨p, hp, e⟩) | h
    · exact .inl h
    · exact .inr (.inl ⟨p, hp, e⟩)
    · exact .inr (.inr h)
theorem urun {late : Array Bool} {K : Env → Hp → Nat → Prop} {Q : Exit → Act → World → Prop} (gs : List GOp) (fuel : Nat) : ∀ (m : Nat) (us : List (Nat × GOp)) (listed : Array Bool) {E : Env} {H : Hp} {n : Nat} {a : Act} {w : World}, us.length = m → Down ops listed → SR w0 S nt E H n a w →
    UOK P nt ops late listed us → vops (laws P w0.heap.size nt) (us.map (·.2) ++ gs) K E H n →
    (∀ {E : Env} {H : Hp} {n : Nat} {a : Act} {w : World}, Down ops (setAll listed us) → SR w0 S nt E H n a w → vops (laws P w0.heap.size nt) gs K E H n → wpAnyB P ops late Q fuel (setAll listed us) a w) → wpAnyB P ops late Q (m + fuel) listed a w := by
  intro m
  induction m with
  | zero =>
    intro us listed E H n a w hm hd h hu hv cont
    obtain rfl := List.eq_nil_of_length_eq_zero hm
    rw [Nat.zero_add]
    exact cont hd h hv
  | succ m ih =>
    intro us listed E H n a w hm hd h hu hv cont
    rw [Nat.add_right_comm]
    have hlist : ∀ p ∈ us, listed.getD p.1 false = false := fun p hp => by
      have := (hu.each p hp).2.2.2.2
      rcases Nat.lt_or_ge p.1 listed.size with h' | h'
      · simpa [h'] using this
      · simp [Array.getElem?_eq_none h']
    refine ⟨fun h0 => ?_, fun i hi => ?_⟩
    · exfalso
      cases us with
      | nil => simp at hm
      | cons p us =>
        have hp := hu.pre
        simp only [preOk, Bool.and_eq_true] at hp
        have hr : p.1 ∈ Region.ready .any ops listed := by
          refine mem_ready.2 ⟨(hu.each p List.mem_cons_self).2.2.2.2, ?_⟩
          cases ho : ops[p.1]? with
          | none => rw [ho] at hp; exact absurd hp.1 (by simp)
          | some o =>
            rw [ho] at hp
            refine ⟨o, rfl, fun e he hb => ?_⟩
            obtain ⟨q, hq, rfl⟩ := Array.getElem_of_mem he
            have := Array.all_eq_true.1 hp.1 q hq
            simp only [hb, Bool.not_true, Bool.false_or] at this
            exact this
        rw [h0] at hr
        cases hr
    · obtain ⟨hun, oi, hoi, hall⟩ := mem_ready.1 hi
      have hlt := (Array.getElem?_eq_some_iff.1 hoi).1
      have hanc : ∀ p ∈ us, anc ops ops.size i p.1 = true → False := fun p hp ha => by
        have := anc_listed hd _ i p.1 oi hoi hall ha
        rw [hlist p hp] at this
        cases this
      obtain ⟨p, hp, rfl⟩ : ∃ p ∈ us, p.1 = i := by
        rcases hu.rest i hlt with h1 | h1 | h1
        · rw [hun] at h1; cases h1
        · exact h1
        · exfalso
          cases us with
          | nil => simp at hm
          | cons p us => exact hanc p List.mem_cons_self (h1 p List.mem_cons_self)
      obtain ⟨pre, post, rfl⟩ := List.append_of_mem hp
      obtain ⟨q1, q2, q3⟩ := pairsU_sub hu.pairs
      obtain ⟨e1, e2, e3, e4, e5⟩ := hu.each p hp
      have hv' : vops (laws P w0.heap.size nt) (p.2 :: (pre.map (·.2) ++ (post.map (·.2) ++ gs))) K E H n := by
        refine bubble p.2 ⟨e2, e3⟩ (post.map (·.2) ++ gs) (pre.map (·.2)) (fun g hg => ?_) h.bd (by simpa using hv)
        obtain ⟨q, hq, rfl⟩ := List.mem_map.1 hg
        obtain ⟨_, f2, f3, _⟩ := hu.each q (List.mem_append_left _ hq)
        refine ⟨f2, f3, ?_⟩
        rcases (q2 q hq).2 with ha | hf
        · exact (hanc q (List.mem_append_left _ hq) ha).elim
        · exact hf
      have hne : ∀ q ∈ pre ++ post, q.1 ≠ p.1 := fun q hq => by
        rcases List.mem_append.1 hq with hq | hq
        · exact (q2 q hq).1
        · exact q3 q hq
      refine vgop_sound h e1 hv' fun E' H' n' a' w' s1 s2 s3 => ⟨fun _ => s3 ?_, ?_⟩
      · cases hgo : p.2.o <;> first | rfl | (rw [hgo] at e2; cases e2)
      · refine ih (pre ++ post) (listed.setIfInBounds p.1 true) (by simp at hm ⊢; omega) (hd.set hi) s1 ⟨fun q hq => ?_, q1, fun j hj => ?_, preOk_step hu.pre⟩ (by simpa using s2) ?_
        · have hq' : q ∈ pre ++ p :: post := by
            rcases List.mem_append.1 hq with hq | hq
            · exact List.mem_append_left _ hq
            · exact List.mem_append_right _ (List.mem_cons_of_mem _ hq)
          obtain ⟨f1, f2, f3, f4, f5⟩ := hu.each q hq'
          exact ⟨f1, f2, f3, f4, by rw [getD_set_ne true fun e => hne q hq e.symm]; exact f5⟩
        · rcases hu.rest j hj with h1 | ⟨q, hq, rfl⟩ | h1
          · refine .inl ?_
            by_cases e : p.1 = j
            · rw [e, Array.getD_eq_getD_getElem?, Array.getElem?_setIfInBounds]
              split
              · split <;> simp
              · simp_all
            · rw [getD_set_ne true e]
              exact h1
          · by_cases hqp : q.1 = p.1
            · refine .inl ?_
              rw [hqp, Array.getD_eq_getD_getElem?, Array.getElem?_setIfInBounds]
              split
              · split <;> simp
              · simp_all
            · refine .inr (.inl ⟨q, ?_, rfl⟩)
              rcases List.mem_append.1 hq with hq | hq
              · exact List.mem_append_left _ hq
              · rcases List.mem_cons.1 hq with e | hq
                · exact absurd (by rw [e]) hqp
                · exact List.mem_append_right _ hq
          · refine .inr (.inr fun q hq => h1 q ?_)
            rcases List.mem_append.1 hq with hq | hq
            · exact List.mem_append_left _ hq
            · exact List.mem_append_right _ (List.mem_cons_of_mem _ hq)
        · have hset : setAll (listed.setIfInBounds p.1 true) (pre ++ post) = setAll listed (pre ++ p :: post) := by
            rw [setAll_app, setAll_app, ← setAll_set]
            rfl
          rw [hset]
          intro E H n a w hd hs hk
          exact cont hd hs hk

theorem draw_sound {late : Array Bool} {K : Env → Hp → Nat → Prop} {Q : Exit → Act → World → Prop} (hQ : ∀ E' H' n' a' w', SR w0 S nt E' H' n' a' w' → K E' H' n' → Q .normal a' w') (hQp : ∀ c a w, ¬ Q (.panic c) a w) (hsel : Region.noSelect ops = true) :
    ∀ (gs : List GOp) (is : List Nat) (listed : Array Bool) (us : List (Nat × GOp)) {E : Env} {H : Hp} {n : Nat} {a : Act} {w : World}, Down ops listed → SR w0 S nt E H n a w → chkDraw P nt ops late listed us is gs = true → vops (laws P w0.heap.size nt) (us.map (·.2) ++ gs) K E H n → wpAnyB P ops late Q (us.length + is.length) listed a w := by
  intro gs
  induction gs with
  | nil =>
    intro is listed us E H n a w hdown h hm hv
    simp only [chkDraw, Bool.and_eq_true, List.isEmpty_iff] at hm
    obtain ⟨⟨rfl, hm1⟩, hm2⟩ := hm
    refine urun [] 0 us.length us listed rfl hdown h (chkU_spec hm1) hv fun hd hs hk => ?_
    exact ⟨hm2, hQ _ _ _ _ _ hs hk⟩
  | cons g gs draw_ih =>
    intro is listed us E H n a w hdown h hm hv
    unfold chkDraw at hm
    by_cases hend : g.o.isEnd = true
    · rw [if_pos hend] at hm
      have hend := VOp.isEnd_spec hend
      simp only [Bool.and_eq_true, Option.isNone_iff_eq_none] at hm
      obtain ⟨⟨hg, hU⟩, hrest⟩ := hm
      refine urun (g :: gs) is.length us.length us listed rfl hdown h (chkU_spec hU) hv fun {E H n a w} hd hs hk => ?_
      have hk' : vops (laws P w0.heap.size nt) gs K E H w.heap.size := by
        have : va (laws P w0.heap.size nt) E H n g.o fun E H n => vops (laws P w0.heap.size nt) gs K E H n := by simpa [vops, vgop, hg] using hk
        rw [hend] at this
        exact this _ hs.nle fun q k hq => (hs.blk q k hq).lt
      have := draw_ih is (setAll listed us) [] hd hs.raise hrest hk'
      simpa using this
    rw [if_neg hend] at hm
    have hm' := hm
    clear hm
    cases is with
    | nil => cases hm'
    | cons i is =>
    dsimp only at hm'
    by_cases hcol : (g.o.isU && g.g.isNone) = true
    · rw [if_pos hcol] at hm'
      have := draw_ih is listed (us ++ [(i, g)]) hdown h hm' (by simpa using hv)
      rw [List.length_append, List.length_singleton, Nat.add_assoc, Nat.add_comm 1] at this
      exact this
    rw [if_neg hcol] at hm'
    simp only [Bool.and_eq_true, beq_iff_eq] at hm'
    obtain ⟨⟨⟨⟨hU, hmg⟩, hlate⟩, hmo⟩, hrest⟩ := hm'
    refine urun (g :: gs) (is.length + 1) us.length us listed rfl hdown h (chkU_spec hU) hv fun {E H n a w} hdown h hv => ?_
    generalize setAll listed us = listed at *
    have ih := fun (hd : Down ops (listed.setIfInBounds i true)) (E : Env) (H : Hp) (n : Nat) (a : Act) (w : World) => draw_ih is (listed.setIfInBounds i true) [] (E := E) (H := H) (n := n) (a := a) (w := w) hd
    simp only [List.map_nil, List.nil_append, List.length_nil, Nat.zero_add] at ih
    by_cases hq : g.o.quiet = true
    · rw [if_pos hq] at hmo
      simp only [Bool.and_eq_true] at hmo
      obtain ⟨hready, hfree⟩ := hmo
      have hready' : i ∈ Region.ready .any ops listed := by simpa using hready
      have hgr : g.o.grows = true := by
        cases hgo : g.o <;> first | rfl | (rw [hgo] at hq; simp [VOp.quiet] at hq)
      rw [hgr] at hlate
      obtain ⟨_, oi, hoi, _⟩ := mem_ready.1 hready'
      have key : ∃ v, YieldsIf P ops (fun w' => g.o.mem = true → Below w.heap.size w w') oi v a ∧ wpAnyB P ops late Q is.length (listed.setIfInBounds i true) (a.put oi.dst v) w := by
        have hmg' := hmg
        unfold mG at hmg'
        rw [hoi] at hmg'
        simp only [Bool.and_eq_true] at hmg'
        obtain ⟨hmo', hgd⟩ := hmg'
        have run : Region.wanted oi (yielded ops a.tmps) = true → va (laws P w0.heap.size nt) E H n g.o (fun E' H' n' => vops (laws P w0.heap.size nt) gs K E' H' n') → ∃ v, YieldsIf P ops (fun w' => g.o.mem = true → Below w.heap.size w w') oi v a ∧ wpAnyB P ops late Q is.length (listed.setIfInBounds i true) (a.put oi.dst v) w := fun hw hva => by
          obtain ⟨d, x, u, hd, _, hK, hu, hrun⟩ := vq_sound (K := fun d v => vops (laws P w0.heap.size nt) gs K (upd E d v) H n) h.blk h.rel hmo' (va_quiet hq hva)
          refine ⟨u, .inl ⟨hw, fun w' hb => hrun w' hb⟩, ?_⟩
          rw [hd]
          exact ih (hdown.set hready') _ _ _ _ _ (h.put hu) hrest hK
        unfold vops vgop at hv
        cases hg : oi.guard with
        | none =>
          rw [hg] at hgd
          cases hgg : g.g with
          | none => rw [hgg] at hv; exact run (by simp [Region.wanted, hg]) hv
          | some p => rw [hgg] at hgd; cases hgd
        | some jw =>
          obtain ⟨j, want⟩ := jw
          rw [hg] at hgd
          cases hgg : g.g with
          | none => rw [hgg] at hgd; cases hgd
          | some p =>
            obtain ⟨t, want'⟩ := p
            rw [hgg] at hgd
            simp only [Bool.and_eq_true, beq_iff_eq] at hgd
            obtain ⟨hjt, rfl⟩ := hgd
            split at hjt <;> first | (cases hjt; done) | skip
            rename_i t' ht'
            simp only [Bool.and_eq_true, beq_iff_eq, decide_eq_true_eq] at hjt
            obtain ⟨rfl, htn⟩ := hjt
            have skip : Region.wanted oi (yielded ops a.tmps) = false → (match g.o.dst with | some d => vops (laws P w0.heap.size nt) gs K (upd E d (.tup [])) H n | none => vops (laws P w0.heap.size nt) gs K E H n) →
                ∃ v, YieldsIf P ops (fun w' => g.o.mem = true → Below w.heap.size w w') oi v a ∧ wpAnyB P ops late Q is.length (listed.setIfInBounds i true) (a.put oi.dst v) w := fun hw hv => by
              obtain ⟨d, hd⟩ : ∃ d, g.o.dst = some d := by
                cases hgo : g.o <;> first | exact ⟨_, rfl⟩ | (rw [hgo] at hq; simp [VOp.quiet] at hq)
              rw [hd] at hv
              obtain ⟨hod, _⟩ := mOp_dst hmo' hd
              refine ⟨undef, .inr ⟨hw, rfl⟩, ?_⟩
              rw [hod]
              exact ih (hdown.set hready') _ _ _ _ _ (h.put (x := .tup []) (u := undef) ⟨#[], rfl, rfl, by simp⟩) hrest hv
            rw [hgg] at hv
            dsimp only at hv
            split at hv
            · rename_i b hb
              have hy := h.yield htn hb ht'
              have hw : Region.wanted oi (yielded ops a.tmps) = (b == want) := by
                simp [Region.wanted, hg, hy]
              by_cases hbw : b = want
              · subst hbw
                rw [if_pos rfl] at hv
                exact run (by rw [hw]; simp) hv
              · rw [if_neg hbw] at hv
                exact skip (by rw [hw]; simpa using hbw) hv
            · rename_i hb
              have hy := h.yield0 htn hb ht'
              exact skip (by simp [Region.wanted, hg, hy]) hv
            · exact hv.elim
      obtain ⟨v, hy, hw⟩ := key
      exact wpAnyB_first hoi (Region.noSelect_spec hsel) hQp hlate w is.length listed a w hdown (freeB_spec hoi hfree) hready' (fun _ => Below.refl _ _) hy hw
    · rw [if_neg hq] at hmo
      have hr : Region.ready .any ops listed = [i] := by simpa using hmo
      refine ⟨fun h0 => (by rw [hr] at h0; cases h0), fun j hj => ?_⟩
      rw [hr] at hj
      obtain rfl := List.mem_singleton.1 hj
      exact vgop_sound h hmg hv fun E' H' n' a' w' h1 h2 h3 => ⟨fun hl => h3 (by rw [hlate] at hl; simpa using hl), ih (hdown.set (by rw [hr]; exact List.mem_singleton.2 rfl)) _ _ _ _ _ h1 hrest h2⟩
end
end Go.AVM

/- A function's text: what the abstract machine says of it holds of a call. -/
namespace Go.AVM
set_option linter.unusedSimpArgs false
open Go.RowKit
set_option linter.unusedVariables false

/-- which operations write what was there -/
def lateA : Nat → List Nat → List GOp → Array Bool
  | n, i :: is, g :: gs => (lateA n is gs).setIfInBounds i (!g.o.grows)
  | n, _, _ => Array.replicate n false

def chkC (P : Program) (nt : Nat) : Code → VC → Bool
  | .skip, .skip => true
  | .region _ ops draw, .reg gs ord => if draw then P.follows .mixedOrders && Region.noSelect ops && ord.length == ops.size && chkDraw P nt ops (lateA ops.size ord (gs.filter fun g => !g.o.isEnd)) (Array.replicate ops.size false) [] ord gs
      else ord == List.range ops.size && mGs P nt ops ord gs
  | .seq a b, .seq c d => chkC P nt a c && chkC P nt b d
  | .cond c a b, .cond c' a' b' => mOpd nt c c' && chkC P nt a a' && chkC P nt b b'
  | .block i c, .block j d => i == j && chkC P nt c d
  | .loop c, .loop d => chkC P nt c d
  | .exit i, .exit j => i == j
  | .ret, .ret => true
  | c, .ghost d => chkC P nt c d
  | _, .stuck => true
  | _, _ => false

def PostC (w0 : World) (S : Sg) (nt : Nat) (Q : Post) : Exit → Act → World → Prop
  | .normal, a, w => ∃ E H n, SR w0 S nt E H n a w ∧ Q .normal E H n
  | .exit id, a, w => ∃ E H n, SR w0 S nt E H n a w ∧ Q (.exit id) E H n
  | .ret, a, w => ∃ E H n, SR w0 S nt E H n a w ∧ Q .ret E H n
  | _, _, _ => False

section
variable {P : Program} {w0 : World} {S : Sg} {nt : Nat}

theorem wp_conv {c : Code} {Q Q' : Exit → Act → World → Prop} {a : Act} {w : World} (h : c.wp P Q a w) (hq : ∀ e a w, Q e a w → Q' e a w) : c.wp P Q' a w := wp_mono h hq

theorem vwp_sound : ∀ (c : Code) (vc : VC) (Q : Post) {E : Env} {H : Hp} {n : Nat} {a : Act} {w : World}, chkC P nt c vc = true → SR w0 S nt E H n a w → vwp (laws P w0.heap.size nt) vc Q E H n → c.wp P (PostC w0 S nt Q) a w := by
  intro c vc
  induction vc generalizing c with
  | stuck =>
    intro Q E H n a w hc h hv
    exact hv.elim
  | skip =>
    intro Q E H n a w hc h hv
    cases c <;> first | (simp [chkC] at hc; done) | skip
    exact wp_skip ⟨E, H, n, h, hv⟩
  | reg gs ord =>
    intro Q E H n a w hc h hv
    cases c <;> first | (simp [chkC] at hc; done) | skip
    rename_i id ops draw
    have hQ : ∀ E' H' n' a' w', SR w0 S nt E' H' n' a' w' → Q .normal E' H' n' → PostC w0 S nt Q .normal a' w' := fun E' H' n' a' w' h1 h2 => ⟨E', H', n', h1, h2⟩
    cases draw with
    | false =>
      simp only [chkC, Bool.false_eq_true, if_false, Bool.and_eq_true, beq_iff_eq] at hc
      obtain ⟨rfl, hm⟩ := hc
      exact wp_region (vops_sound hQ _ gs h hm hv)
    | true =>
      simp only [chkC, if_true, Bool.and_eq_true, beq_iff_eq] at hc
      obtain ⟨⟨⟨hmo, hsel⟩, hl⟩, hm⟩ := hc
      refine wp_region_any hmo ?_
      rw [← hl]
      refine wpAny_of_B (late := lateA ops.size ord (gs.filter fun g => !g.o.isEnd)) _ _ _ _ ?_
      have := draw_sound (late := lateA ops.size ord (gs.filter fun g => !g.o.isEnd)) hQ (fun _ _ _ h => h) hsel gs ord (Array.replicate ord.length false) [] (Down.none _) (h.quiet_world (w' := w.drew) ⟨rfl, rfl, rfl, Nat.le_refl _, fun _ _ => rfl⟩) (by rw [hl]; exact hm) hv
      simpa using this
  | seq x' y' ihx ihy =>
    intro Q E H n a w hc h hv
    cases c <;> first | (simp [chkC] at hc; done) | skip
    rename_i x y
    simp only [chkC, Bool.and_eq_true] at hc
    refine wp_seq (wp_conv (ihx x _ hc.1 h hv) ?_)
    intro e a' w' hq
    cases e <;> first | (exact hq.elim) | skip
    · obtain ⟨E', H', n', h', hv'⟩ := hq
      exact ihy y Q hc.2 h' hv'
    · exact hq
    · exact hq
  | cond o' x' y' ihx ihy =>
    intro Q E H n a w hc h hv
    cases c <;> first | (simp [chkC] at hc; done) | skip
    rename_i o x y
    simp only [chkC, Bool.and_eq_true] at hc
    obtain ⟨t, ht, hv⟩ := hv
    have hr := h.rel.ev hc.1.1
    rw [ht] at hr
    refine wp_cond hr.bool_inv ?_
    cases t with
    | true => exact ihx x Q hc.1.2 h hv
    | false => exact ihy y Q hc.2 h hv
  | block id' x' ih =>
    intro Q E H n a w hc h hv
    cases c <;> first | (simp [chkC] at hc; done) | skip
    rename_i id x
    simp only [chkC, Bool.and_eq_true, beq_iff_eq] at hc
    obtain ⟨rfl, hc⟩ := hc
    refine wp_block (wp_conv (ih x _ hc h hv) ?_)
    intro e a' w' hq
    cases e <;> first | (exact hq.elim) | skip
    · exact hq
    · obtain ⟨E', H', n', h', hv'⟩ := hq
      simp only [Exit.inBlock]
      simp only [Post.inBlock] at hv'
      split
      · rename_i e; rw [if_pos e] at hv'; exact ⟨E', H', n', h', hv'⟩
      · rename_i e; rw [if_neg e] at hv'; exact ⟨E', H', n', h', hv'⟩
    · exact hq
  | loop x' ih =>
    intro Q E H n a w hc h hv
    cases c <;> first | (simp [chkC] at hc; done) | skip
    rename_i x
    simp only [chkC] at hc
    obtain ⟨k, hk⟩ := hv
    refine wp_loop_rounds k ?_
    have key : ∀ k E H n a w, SR w0 S nt E H n a w → rounds (vwp (laws P w0.heap.size nt) x') Q k E H n → Code.rounds P x (PostC w0 S nt Q) k a w := by
      intro k
      induction k with
      | zero => intro E H n a w _ hk; exact hk.elim
      | succ k ihk =>
        intro E H n a w h hk
        rw [rounds_succ]
        refine wp_conv (ih x _ hc h hk) ?_
        intro e a' w' hq
        cases e <;> first | (exact hq.elim) | skip
        · obtain ⟨E', H', n', h', hv'⟩ := hq
          exact ihk E' H' n' a' w' h' hv'
        · exact hq
        · exact hq
    exact key k E H n a w h hk
  | exit id' =>
    intro Q E H n a w hc h hv
    cases c <;> first | (simp [chkC] at hc; done) | skip
    rename_i id
    obtain rfl : id = id' := by simpa [chkC] using hc
    exact wp_exit ⟨E, H, n, h, hv⟩
  | ret =>
    intro Q E H n a w hc h hv
    cases c <;> first | (simp [chkC] at hc; done) | skip
    exact wp_ret ⟨E, H, n, h, hv⟩
  | ghost x ih =>
    intro Q E H n a w hc h hv
    obtain ⟨E', H', hg, hv⟩ := hv
    have hc' : chkC P nt c x = true := by cases c <;> simpa [chkC] using hc
    exact ih c Q hc' (hg w0 S a w rfl h) hv

def resOk (P : Program) (nt : Nat) : List ResultVar → List RVr → Bool
  | [], [] => true
  | .tmp t :: rs, .tmp t' :: vs => t == t' && decide (t < nt) && resOk P nt rs vs
  | .cell t ty :: rs, .cell t' sz :: vs => t == t' && decide (t < nt) && szOk P ty sz && resOk P nt rs vs
  | _, _ => false

def chkFn (P : Program) (f : FuncId) (vf : VFn) : Bool :=
  match P.funcs[f]? with
  | none => false
  | some fn => fn.ntmps == vf.nt && decide (vf.np ≤ vf.nt) && !(fn.name == "runtime.NumGoroutine") && resOk P vf.nt fn.results.toList vf.res && match fn.body with | some c => chkC P vf.nt c vf.body | none => false

def resF (tmps : Array Value) : ResultVar → Sem Value
  | .tmp t => pure (tmps.getD t undef)
  | .cell a t => do loadVar t (← asAddr (tmps.getD a undef))
theorem results_eq (fn : Func) (tmps : Array Value) : results fn tmps = (do let vs ← fn.results.mapM (resF tmps); pure (if h : vs.size = 1 then vs[0] else .tuple vs)) := by
  unfold results
  have : (fun (x : ResultVar) => (match x with | .tmp t => pure (tmps.getD t undef) | .cell a t => do loadVar t (← asAddr (tmps.getD a undef)) : Sem Value)) = resF tmps := by
    funext r
    cases r <;> rfl
  rw [← this]
  rfl

theorem results_ok : ∀ (rs : List ResultVar) (vs : List RVr) {E : Env} {H : Hp} {n : Nat} {a : Act} {w : World} {K : List AV → Prop}, SR w0 S nt E H n a w → resOk P nt rs vs = true → getR E H vs K →
    ∃ (us : List Value) (xs : List AV), K xs ∧ us.length = xs.length ∧ (∀ (i : Nat) (x : AV) (u : Value), xs[i]? = some x → us[i]? = some u → RV w (Stb w0 S H w) x u) ∧
      (rs.mapM (resF a.tmps)).run P w = .ok us w
  | [], [], E, H, n, a, w, K, h, _, hk => ⟨[], [], hk, rfl, by simp, by simp⟩
  | .tmp t :: rs, .tmp t' :: vs, E, H, n, a, w, K, h, hm, hk => by
    simp only [resOk, Bool.and_eq_true, beq_iff_eq, decide_eq_true_eq] at hm
    obtain ⟨⟨rfl, ht⟩, hm⟩ := hm
    obtain ⟨us, xs, hK, hl, hr, hrun⟩ := results_ok rs vs h hm hk
    refine ⟨a.tmps.getD t undef :: us, E t :: xs, hK, by simp [hl], fun i x u hx hu => ?_, ?_⟩
    · cases i with
      | zero =>
        obtain rfl : E t = x := by simpa using hx
        obtain rfl : a.tmps.getD t undef = u := by simpa using hu
        exact h.tm t ht
      | succ i => exact hr i x u (by simpa using hx) (by simpa using hu)
    · simp only [List.mapM_cons, resF, Sem.run_bind, Sem.run_pure, Result.andThen_ok, hrun]
  | .cell t ty :: rs, .cell t' sz :: vs, E, H, n, a, w, K, h, hm, hk => by
    simp only [resOk, Bool.and_eq_true, beq_iff_eq, decide_eq_true_eq] at hm
    obtain ⟨⟨⟨rfl, ht⟩, hsz⟩, hm⟩ := hm
    -- the load, as the operation's law has it
    have hq : vq E H (.ld 0 (.t t) sz) (fun _ v => getR E H vs fun vs' => K (v :: vs')) := hk
    have hnt : 0 < nt := Nat.lt_of_le_of_lt (Nat.zero_le _) ht
    obtain ⟨d, x, u, _, _, hK', hu, hrun⟩ := vq_sound (P := P) (o := { dst := some 0, op := .load ty (.tmp t), type := ty, pos := "", after := #[], guard := none }) h.blk h.rel (by simp [mOp, VOp.dst, mOp2, VOp.base, mOp1, hsz, mOpd, ht, hnt]) hq
    have hrun0 := hrun w (fun _ => Below.refl _ _)
    obtain ⟨us, xs, hK, hl, hr, hrun'⟩ := results_ok rs vs h hm hK'
    have hload : (Instr.loadAt ty (a.tmps.getD t undef)).run P w = .ok u w := by
      have h0 : ((Instr.loadAt ty (a.tmps.getD t undef)).run P w).andThen (fun v w' => .ok (Next.value v) w') = .ok (.value u) w := by
        rw [← hrun0]
        simp [execOp, Act.eval]
      cases hl : (Instr.loadAt ty (a.tmps.getD t undef)).run P w with
      | ok v w1 => rw [hl] at h0; simpa using h0
      | halt x w1 => rw [hl] at h0; cases h0
    refine ⟨u :: us, x :: xs, hK, by simp [hl], fun i y v hx hv => ?_, ?_⟩
    · cases i with
      | zero =>
        obtain rfl : x = y := by simpa using hx
        obtain rfl : u = v := by simpa using hv
        exact hu
      | succ i => exact hr i y v (by simpa using hx) (by simpa using hv)
    · have hl2 : (resF a.tmps (.cell t ty)).run P w = .ok u w := by
        rw [← hload]
        show (do let x ← asAddr (a.tmps.getD t undef); loadVar ty x : Sem Value).run P w = (do let x ← Instr.sureAddr (a.tmps.getD t undef); loadVar ty x : Sem Value).run P w
        cases hv : a.tmps.getD t undef with
        | pointer ad => cases ad <;> first | rfl | (rw [hv] at hload; simp [Instr.loadAt, Instr.sureAddr] at hload)
        | _ => rw [hv] at hload; simp [Instr.loadAt, Instr.sureAddr] at hload
      simp only [List.mapM_cons, Sem.run_bind, hl2, Result.andThen_ok, hrun']
      simp
  | [], v :: vs, _, _, _, _, _, _, _, hm, _ => by simp [resOk] at hm
  | .tmp _ :: _, [], _, _, _, _, _, _, _, hm, _ => by simp [resOk] at hm
  | .cell _ _ :: _, [], _, _, _, _, _, _, _, hm, _ => by simp [resOk] at hm
  | .tmp _ :: _, .cell _ _ :: _, _, _, _, _, _, _, _, hm, _ => by simp [resOk] at hm
  | .cell _ _ :: _, .tmp _ :: _, _, _, _, _, _, _, _, hm, _ => by simp [resOk] at hm

theorem RV.to0 {w : World} {T : Nat → Prop} {x : AV} {v : Value} (h : RV w T x v) (ht : ∀ vs, x ≠ .tup vs) : RV0 w T x v := by
  cases x <;> first | exact h | exact absurd rfl (ht _)

theorem chkFn_spec {f : FuncId} {vf : VFn} (hc : chkFn P f vf = true) : ∃ fn c, P.funcs[f]? = some fn ∧ fn.body = some c ∧ (fn.name == "runtime.NumGoroutine") = false ∧ fn.ntmps = vf.nt ∧ vf.np ≤ vf.nt ∧ resOk P vf.nt fn.results.toList vf.res = true ∧ chkC P vf.nt c vf.body = true := by
  unfold chkFn at hc
  cases hfn : P.funcs[f]? with
  | none => rw [hfn] at hc; cases hc
  | some fn =>
    rw [hfn] at hc
    simp only [Bool.and_eq_true, beq_iff_eq, decide_eq_true_eq, Bool.not_eq_true'] at hc
    obtain ⟨⟨⟨⟨hnt, hnp⟩, hname⟩, hres⟩, hbody⟩ := hc
    cases hb : fn.body with
    | none => rw [hb] at hbody; cases hbody
    | some c =>
      rw [hb] at hbody
      exact ⟨fn, c, rfl, hb, hname, hnt, hnp, hres, hbody⟩

theorem init_sr {w : World} {S : Sg} {args : List AV} {vs : Array Value} {H0 : Hp} {nt m : Nat} (hm : m = nt) (hle : vs.size ≤ nt) (hl : vs.size = args.length) (hvs : ∀ (i : Nat) (x : AV), args[i]? = some x → ∃ u, vs[i]? = some u ∧ RV w (Stb w S H0 w) x u)
    (hb : ∀ d k, H0 d = some k → BOK w (Stb w S H0 w) (Mine w S) k) (hi : ∀ d d' k k', H0 d = some k → H0 d' = some k' → k.b = k'.b → d = d') :
    SR w S nt (ini args) H0 w.heap.size { tmps := vs ++ Array.replicate (m - vs.size) undef, defers := [] } w := by
  refine ⟨rfl, by simp; omega, Bel.refl _ _, Nat.le_refl _, Nat.le_refl _, fun t ht => ?_, hb, hi⟩
  unfold ini
  rcases Nat.lt_or_ge t args.length with hlt | hge
  · obtain ⟨u, hu, hr⟩ := hvs t args[t] (List.getElem?_eq_getElem hlt)
    have hlt' : t < vs.size := by rw [hl]; exact hlt
    have : (vs ++ Array.replicate (m - vs.size) undef).getD t undef = u := by
      rw [Array.getD_eq_getD_getElem?, Array.getElem?_append_left hlt', hu]
      rfl
    rw [this, List.getD_eq_getElem?_getD, List.getElem?_eq_getElem hlt]
    exact hr
  · rw [List.getD_eq_getElem?_getD, List.getElem?_eq_none hge]
    trivial

theorem end_run {fn : Func} {a : Act} {w : World} {us : List Value} (hrun : (fn.results.toList.mapM (resF a.tmps)).run P w = .ok us w) :
    (results fn a.tmps).run P w = .ok (if h : us.toArray.size = 1 then us.toArray[0] else .tuple us.toArray) w := by
  rw [results_eq, Sem.run_bind, Array.mapM_eq_mapM_toList, Sem.run_map, hrun]
  rfl
theorem end_rv {w : World} {T : Nat → Prop} {us : List Value} {ys : List AV} (hyl : ys.length = us.length) (hyr : ∀ (i : Nat) (x : AV) (v : Value), ys[i]? = some x → us[i]? = some v → RV w T x v ∧ ∀ vs, x ≠ .tup vs) :
    RV w T (mkR ys) (if h : us.toArray.size = 1 then us.toArray[0] else .tuple us.toArray) := by
  by_cases h1 : us.length = 1
  · obtain ⟨u, rfl⟩ := List.length_eq_one_iff.1 h1
    obtain ⟨y, rfl⟩ := List.length_eq_one_iff.1 (hyl.trans h1)
    exact (hyr 0 y u rfl rfl).1
  · rw [dif_neg (by simpa using h1)]
    have : mkR ys = .tup ys := by
      rcases ys with _ | ⟨y, _ | ⟨y2, ys⟩⟩
      · rfl
      · exact absurd hyl.symm h1
      · rfl
    rw [this]
    refine ⟨us.toArray, rfl, by simp [hyl], fun i x hi => ?_⟩
    have hlt : i < us.length := by rw [← hyl]; exact (List.getElem?_eq_some_iff.1 hi).1
    obtain ⟨g1, g2⟩ := hyr i x us[i] hi (List.getElem?_eq_getElem hlt)
    exact ⟨us[i], by simp [hlt], g1.to0 g2⟩

/-- What the abstract machine says of a function's text holds of every call; the arguments' values may be told otherwise than the law has them. -/
theorem fn_okE {f : FuncId} {vf : VFn} {args : List AV} {R : Nat → Nat → AV → Prop} {args' : Nat → List AV} (hc : chkFn P f vf = true) (hn : args.length = vf.np)
    (ha : ∀ (w : World) (S : Nat → Prop) (vs : Array Value), (∀ b, S b → b < w.heap.size) → RVs w S args vs → RVs w S (args' w.heap.size) vs)
    (h : ∀ lo, vwp ⟨OK P, OKM P, GH lo vf.nt⟩ vf.body (fnPost vf.res lo R) (ini (args' lo)) (fun _ => none) lo) : OK P f args R := by
  obtain ⟨fn, c, hfn, hb, hname, hnt, hnp, hres, hbody⟩ := chkFn_spec hc
  refine .inl ⟨⟨fn, hfn, by rw [hb]; rfl, hname⟩, fun w S vs hS hvs => ?_⟩
  have hsz : vs.size = vf.np := by rw [hvs.1, hn]
  obtain ⟨hl', hr'⟩ := ha w S vs hS hvs
  have hsr : SR w ⟨S, fun _ => False⟩ vf.nt (ini (args' w.heap.size)) (fun _ => none) w.heap.size { tmps := vs ++ Array.replicate (fn.ntmps - vs.size) undef, defers := [] } w := by
    refine init_sr hnt (by omega) hl' (fun i x hi => ?_) (fun d k hk => by cases hk) (fun d d' k k' hk => by cases hk)
    obtain ⟨u, hu, hr⟩ := hr' i x hi
    exact ⟨u, hu, hr.mono (on_same fun g hg => ⟨.inl hg, hS g hg, fun d k hk => (by cases hk)⟩)⟩
  have hwp := vwp_sound (P := P) c vf.body _ hbody hsr (h w.heap.size)
  have fin : ∀ (E : Env) (H : Hp) (n : Nat) (a : Act) (w' : World), SR w ⟨S, fun _ => False⟩ vf.nt E H n a w' → (getR E H vf.res fun vs => solE H vs fun vs' _ => R w.heap.size n (mkR vs')) →
      a.defers = [] ∧ ∃ v, (results fn a.tmps).run P w' = .ok v w' ∧ ∃ v' r hi, Ending.returned v = .returned v' ∧ w.heap.size ≤ hi ∧ hi ≤ w'.heap.size ∧ R w.heap.size hi r ∧ RV w' (fun b => S b ∨ (w.heap.size ≤ b ∧ b < w'.heap.size)) r v' ∧ Below w.heap.size w w' := by
    intro E H n a w' hs hg
    obtain ⟨us, xs, hK, hl, hr, hrun⟩ := results_ok _ _ hs hres hg
    obtain ⟨ys, H', hR, hs', _, hyl, hyr⟩ := solE_ok xs us hs hl.symm (fun i x v hx hv => hr i x v hx hv) hK
    have hon : On w' w' (Stb w ⟨S, fun _ => False⟩ H' w') (fun b => S b ∨ (w.heap.size ≤ b ∧ b < w'.heap.size)) := on_same fun g hg => hg.1.imp id fun h' => ⟨h'.resolve_left id, hg.2.1⟩
    refine ⟨hs.defs, _, end_run hrun, _, mkR ys, n, rfl, hs.nge, hs.nle, hR, (end_rv hyl fun i x v h1 h2 => ?_).mono hon, hs.bel.below⟩
    obtain ⟨g1, g2, _⟩ := hyr i x v h1 h2
    exact ⟨g1, g2⟩
  refine calls_of_wp hfn hb (wp_conv hwp fun e a w' hq => ?_)
  cases e <;> first | (exact hq.elim) | skip
  · obtain ⟨E, H, n, hs, hg⟩ := hq
    exact fin E H n a w' hs hg
  · obtain ⟨_, _, _, _, hg⟩ := hq
    exact hg.elim
  · obtain ⟨E, H, n, hs, hg⟩ := hq
    exact fin E H n a w' hs hg

/-- what is told of a function that has a body -/
theorem OK.body {f : FuncId} {vf : VFn} {args : List AV} {R : Nat → Nat → AV → Prop} (hc : chkFn P f vf = true) (h : OK P f args R) : OKb P f args R := by
  obtain ⟨fn, c, hfn, hb, hname, _⟩ := chkFn_spec hc
  refine ⟨⟨fn, hfn, by rw [hb]; rfl, hname⟩, fun w S vs hS hvs => ?_⟩
  rcases h with h | h
  · exact h.2 w S vs hS hvs
  · obtain ⟨v, r, hr, _⟩ := h w S vs hS hvs
    have hnm : ¬ (fn.name = "runtime.NumGoroutine") := by simpa using hname
    simp [callFunc, hfn, hnm, hb] at hr
theorem fn_ok {f : FuncId} {vf : VFn} {args : List AV} {R : Nat → Nat → AV → Prop} (hc : chkFn P f vf = true) (hn : args.length = vf.np) (h : ∀ lo, vwp ⟨OK P, OKM P, GH lo vf.nt⟩ vf.body (fnPost vf.res lo R) (ini args) (fun _ => none) lo) : OK P f args R :=
  fn_okE (args' := fun _ => args) hc hn (fun _ _ _ _ h => h) h

theorem older_rv {w : World} {S : Nat → Prop} {x : AV} {v : Value} (hS : ∀ b, S b → b < w.heap.size) (h : RV w S x v) : RV w S (x.older w.heap.size) v := by
  have hon : On w w S (fun g => S g ∧ g < w.heap.size) := on_same fun g hg => ⟨hg, hS g hg⟩
  cases x <;> first | exact h | exact RC.mono hon h | skip
  obtain ⟨cs, e, h⟩ := h
  exact ⟨cs, e, h.mono hon⟩
/-- The same, the arguments marked as what was there before. -/
theorem fn_okO {f : FuncId} {vf : VFn} {args : List AV} {R : Nat → Nat → AV → Prop} (hc : chkFn P f vf = true) (hn : args.length = vf.np)
    (h : ∀ lo, vwp ⟨OK P, OKM P, GH lo vf.nt⟩ vf.body (fnPost vf.res lo R) (ini (args.map (AV.older lo))) (fun _ => none) lo) : OK P f args R :=
  fn_okE (args' := fun lo => args.map (AV.older lo)) hc hn (fun w S vs hS hvs => ⟨by simpa using hvs.1, fun i x hi => by
    rw [List.getElem?_map] at hi
    obtain ⟨y, hy, rfl⟩ := Option.map_eq_some_iff.1 hi
    obtain ⟨u, hu, hr⟩ := hvs.2 i y hy
    exact ⟨u, hu, older_rv hS hr⟩⟩) h

/-- The same of a function that is handed rows to write. -/
theorem fn_okM {f : FuncId} {vf : VFn} {args : List AV} {H0 : Hp} {R : Nat → Nat → AV → Hp → Prop} (hc : chkFn P f vf = true) (hn : args.length = vf.np) (h : ∀ lo, (∀ d k, H0 d = some k → k.b < lo) → vwp ⟨OK P, OKM P, GH lo vf.nt⟩ vf.body (fnPostM vf.res lo R) (ini args) H0 lo) : OKM P f args H0 R := by
  obtain ⟨fn, c, hfn, hb, hname, hnt, hnp, hres, hbody⟩ := chkFn_spec hc
  refine ⟨⟨fn, hfn, by rw [hb]; rfl, hname⟩, fun w S vs hS hvs hbk hin => ?_⟩
  have hsz : vs.size = vf.np := by rw [hvs.1, hn]
  have hSS : ∀ g, S g → Stb w ⟨S, gvn H0⟩ H0 w g := fun g hg => ⟨.inl hg, hS g hg, fun d k hk hf he => by
    obtain ⟨_, g1, _⟩ := hbk d k hk
    exact g1 (he ▸ hg)⟩
  have hsr : SR w ⟨S, gvn H0⟩ vf.nt (ini args) H0 w.heap.size { tmps := vs ++ Array.replicate (fn.ntmps - vs.size) undef, defers := [] } w := by
    refine init_sr hnt (by omega) hvs.1 (fun i x hi => ?_) (fun d k hk => ?_) hin
    · obtain ⟨u, hu, hr⟩ := hvs.2 i x hi
      exact ⟨u, hu, hr.mono (on_same hSS)⟩
    · obtain ⟨g1, g2, g3⟩ := ((hbk d k hk).2.mono (on_same hSS) rfl)
      exact ⟨.inl ⟨d, k, hk, rfl⟩, g2, g3⟩
  have hwp := vwp_sound (P := P) c vf.body _ hbody hsr (h w.heap.size fun d k hk => (hbk d k hk).2.lt)
  have fin : ∀ (E : Env) (H : Hp) (n : Nat) (a : Act) (w' : World), SR w ⟨S, gvn H0⟩ vf.nt E H n a w' → (getR E H vf.res fun vs => (∀ v ∈ vs, ∀ us, v ≠ .tup us) ∧ R w.heap.size n (mkR vs) H) →
      a.defers = [] ∧ ∃ v, (results fn a.tmps).run P w' = .ok v w' ∧ ∃ v' r hi H', Ending.returned v = .returned v' ∧ w.heap.size ≤ hi ∧ hi ≤ w'.heap.size ∧ R w.heap.size hi r H' ∧ RV w' (Stb w ⟨S, gvn H0⟩ H' w') r v' ∧
        (∀ d k, H' d = some k → BOK w' (Stb w ⟨S, gvn H0⟩ H' w') (Mine w ⟨S, gvn H0⟩) k) ∧ (∀ d d' k k', H' d = some k → H' d' = some k' → k.b = k'.b → d = d') ∧ Bel w ⟨S, gvn H0⟩ w' := by
    intro E H n a w' hs hg
    obtain ⟨us, xs, ⟨hnt, hR⟩, hl, hr, hrun⟩ := results_ok _ _ hs hres hg
    exact ⟨hs.defs, _, end_run hrun, _, mkR xs, n, H, rfl, hs.nge, hs.nle, hR, end_rv hl.symm (fun i x v h1 h2 => ⟨hr i x v h1 h2, hnt x (List.mem_of_getElem? h1)⟩), hs.blk, hs.inj, hs.bel⟩
  refine calls_of_wp hfn hb (wp_conv hwp fun e a w' hq => ?_)
  cases e <;> first | (exact hq.elim) | skip
  · obtain ⟨E, H, n, hs, hg⟩ := hq
    exact fin E H n a w' hs hg
  · obtain ⟨_, _, _, _, hg⟩ := hq
    exact hg.elim
  · obtain ⟨E, H, n, hs, hg⟩ := hq
    exact fin E H n a w' hs hg
end
end Go.AVM
