/- Calls, the law; every operation. -/
import Derived.Test.YtnanbjnadkoekaaDoorVE
namespace Go.AVM
set_option linter.unusedSimpArgs false
open Go.RowKit
set_option linter.unusedVariables false
section
variable {P : Program} {w0 w : World} {S : Sg} {nt n : Nat} {E : Env} {H : Hp} {a : Act} {o : Oper}

theorem frz_get : ∀ (ks : List Nat) (H : Hp) (d : Nat), frz H ks d = if d ∈ ks then (H d).map (fun k => { k with fz := true }) else H d
  | [], H, d => by simp [frz]
  | e :: ks, H, d => by
    have ih := frz_get ks H d
    unfold frz
    cases he : H e with
    | none =>
      simp only [ih, List.mem_cons]
      by_cases hd : d = e
      · subst hd
        simp [he]
      · simp [hd]
    | some k =>
      simp only [updH, List.mem_cons]
      by_cases hd : d = e
      · subst hd
        simp [he]
      · rw [if_neg hd, ih]
        simp [hd]

theorem frz_some {ks : List Nat} {d : Nat} {k' : Blk} (h : frz H ks d = some k') : ∃ k, H d = some k ∧ k'.b = k.b ∧ k'.s = k.s ∧ k'.xs = k.xs ∧ k'.row = k.row ∧ k'.ex = k.ex ∧ ((d ∈ ks ∧ k'.fz = true) ∨ (d ∉ ks ∧ k'.fz = k.fz)) := by
  rw [frz_get] at h
  split at h
  · obtain ⟨k, hk, rfl⟩ := Option.map_eq_some_iff.1 h
    exact ⟨k, hk, rfl, rfl, rfl, rfl, rfl, .inl ⟨by assumption, rfl⟩⟩
  · exact ⟨k', h, rfl, rfl, rfl, rfl, rfl, .inr ⟨by assumption, rfl⟩⟩

theorem stb_frz {ks : List Nat} {g : Nat} (h : Stb w0 S H w g) : Stb w0 S (frz H ks) w g := by
  refine ⟨h.1, h.2.1, fun d k' hk hf => ?_⟩
  obtain ⟨k, hk', hb, _, _, _, _, hor⟩ := frz_some hk
  rcases hor with ⟨_, h'⟩ | ⟨_, h'⟩
  · rw [h'] at hf; cases hf
  · rw [hb]; exact h.2.2 d k hk' (h' ▸ hf)

theorem SR.freeze {ks : List Nat} (h : SR w0 S nt E H n a w) : SR w0 S nt E (frz H ks) n a w := by
  have hon : On w w (Stb w0 S H w) (Stb w0 S (frz H ks) w) := on_same fun g => stb_frz
  refine ⟨h.defs, h.size, h.bel, h.nle, h.nge, fun t ht => (h.tm t ht).mono hon, fun d k' hk => ?_, fun d1 d2 k1 k2 e1 e2 he => ?_⟩
  · obtain ⟨k, hk', hb, hs, hx, _, hex, _⟩ := frz_some hk
    obtain ⟨g1, g2, c, e, g3, g4, g4', g5⟩ := h.blk d k hk'
    refine ⟨by rw [hb]; exact g1, by rw [hs]; exact g2, c, e, by rw [hb]; exact g3, by rw [hx, hs]; exact g4, by rw [hx, hs, hex]; exact g4', fun i x hi => ?_⟩
    rw [hx] at hi
    obtain ⟨cs, g6, g7, g8⟩ := g5 i x hi
    exact ⟨cs, by rw [hs]; exact g6, g7.mono hon, by rw [hs]; exact g8⟩
  · obtain ⟨k1', hk1, hb1, _⟩ := frz_some e1
    obtain ⟨k2', hk2, hb2, _⟩ := frz_some e2
    exact h.inj d1 d2 k1' k2' hk1 hk2 (by rw [← hb1, ← hb2]; exact he)

theorem sc_frz {ks : List Nat} (h : SR w0 S nt E H n a w) {g : Nat} (hg : Sc w0 S H w ks g) : Stb w0 S (frz H ks) w g := by
  rcases hg with hg | ⟨d, k, hd, hk, rfl⟩
  · exact stb_frz hg
  · refine ⟨.inr (h.blk d k hk).low, (h.blk d k hk).lt, fun d' k' hk' hf he => ?_⟩
    obtain ⟨k2, hk2, hb2, _, _, _, _, hor⟩ := frz_some hk'
    rcases hor with ⟨_, h'⟩ | ⟨hn, _⟩
    · rw [h'] at hf; cases hf
    · obtain rfl := h.inj d' d k2 k hk2 hk (by rw [← hb2]; exact he)
      exact hn hd

/-- a value that no row stands behind reads so whatever is stable -/
theorem scal0_rv {T T' : Nat → Prop} {w' : World} {x : AV} {v : Value} (hs : x.scal0 = true) (h : RV0 w T x v) : RV0 w' T' x v := by
  cases x <;> simp [AV.scal0] at hs
  · cases h; exact RC.bool _
  · cases h; exact RC.int _ _
  · cases h; exact RC.str _
theorem scal_rv {T T' : Nat → Prop} {w' : World} {x : AV} {v : Value} (hs : x.scal = true) (h : RV w T x v) : RV w' T' x v := by
  cases x <;> simp [AV.scal] at hs
  · trivial
  · have h : RC w T _ [v] := h
    cases h; exact RC.bool _
  · have h : RC w T _ [v] := h
    cases h; exact RC.int _ _
  · have h : RC w T _ [v] := h
    cases h; exact RC.str _
  · obtain ⟨cs, rfl, hl, hall⟩ := h
    refine ⟨cs, rfl, hl, fun i x hi => ?_⟩
    obtain ⟨u, hu, hr⟩ := hall i x hi
    exact ⟨u, hu, scal0_rv (hs x (List.mem_of_getElem? hi)) hr⟩

theorem scal_rc {T T' : Nat → Prop} {w' : World} {x : AV} {cs : List Value} (hs : x.scal = true) (hz : x.sz = 1) (h : RC w T x cs) : RC w' T' x cs := by
  cases h <;> simp_all [AV.scal, AV.sz]
  · exact RC.bool _
  · exact RC.int _ _
  · exact RC.str _

/-- what lies apart from block b -/
theorem avoid1_rc {T : Nat → Prop} {b : Nat} {x : AV} {cs : List Value} (ha : avoid1 b x) (h : RC w T x cs) : RC w (fun g => T g ∧ g ≠ b) x cs := by
  cases h <;> first | (exact ha.elim) | skip
  · exact RC.bool _
  · exact RC.int _ _
  · exact RC.str _
  · exact RC.emp _
  · rename_i t len cap s xs ad cells h1 h2 h3 hm hne ht h
    obtain ⟨hb, hor⟩ := ha
    refine RC.lsl t len cap s xs ad cells h1 h2 h3 hm (fun hx => ?_) (fun b' s' hbs => ?_) (fun i x hi => ?_)
    · obtain ⟨g, off, hge, hT, hc⟩ := hne hx
      refine ⟨g, off, hge, ⟨hT, ?_⟩, hc⟩
      rcases hor with hor | ⟨hsome, _⟩
      · exact absurd hor hx
      · obtain ⟨⟨b', s'⟩, hbs⟩ := Option.isSome_iff_exists.1 hsome
        obtain ⟨_, _, ha', _⟩ := ht b' s' hbs
        rw [hge] at ha'
        have : g = b' := by simpa using congrArg (Option.map Addr.block) ha'
        rw [this]
        exact hb b' s' hbs
    · obtain ⟨g1, g2, g3⟩ := ht b' s' hbs
      exact ⟨g1, ⟨g2, hb b' s' hbs⟩, g3⟩
    · rcases hor with hor | ⟨_, hall⟩
      · subst hor; simp at hi
      · obtain ⟨g1, g2⟩ := hall x (List.mem_of_getElem? hi)
        exact scal_rc g1 g2 (h i x hi)
theorem avoid_rc {T : Nat → Prop} {b : Nat} {x : AV} {cs : List Value} (ha : avoid b x) (h : RC w T x cs) : RC w (fun g => T g ∧ g ≠ b) x cs := by
  cases x with
  | agg fs =>
    cases h with
    | agg _ _ hl hn h => exact RC.agg fs cs hl hn fun i f c hf hc => avoid1_rc (ha f (List.mem_of_getElem? hf)) (h i f c hf hc)
  | _ => exact avoid1_rc ha h

/-- A result that is taken over as a row of one's own. -/
theorem SR.import {d b s : Nat} {xs : List AV} {x : AV} {u : Value} {T : Nat → Prop} {cap n' : Nat} {w' : World} (h : SR w0 S nt E H n a w) (hn1 : n' ≤ w'.heap.size) (hn2 : w0.heap.size ≤ n') (hb : Below w.heap.size w w') (hs : 0 < s) (hlow : w.heap.size ≤ b) (hav : ∀ x ∈ xs, avoid b x)
    (hT : ∀ g, T g → g ≠ b → Stb w0 S H w g ∨ (w.heap.size ≤ g ∧ g < w'.heap.size))
    (hr : RC w' T (.lsl (some (b, s)) xs.length xs) [.slice (some ⟨b, 0, none⟩) xs.length cap]) (hx : ∀ T', RC w' T' (.own d b s xs.length) [.slice (some ⟨b, 0, none⟩) xs.length cap] → RV w' T' x u) :
    SR w0 S nt (upd E d x) (updH H d (some ⟨b, s, xs, false, true, false⟩)) n' (a.put (some d) u) w' := by
  cases hr with
  | lsl _ _ _ s1 _ _ cells h1 h2 h3 hm hne ht hrc =>
  obtain ⟨hs1, hTb, had, c, e, hh, hcs⟩ := ht b s rfl
  subst hs1
  have hTT : ∀ g, Stb w0 S H w g → Stb w0 S (updH H d (some ⟨b, s, xs, false, true, false⟩)) w' g := fun g hg => by
    refine ⟨hg.1, Nat.lt_of_lt_of_le hg.2.1 hb.size, fun d' k' hk' hf => ?_⟩
    rcases updH_some hk' with ⟨_, he⟩ | ⟨_, he⟩
    · obtain rfl := Option.some.inj he
      have := hg.2.1
      simp only
      omega
    · exact hg.2.2 d' k' he hf
  have hT' : ∀ g, (T g ∧ g ≠ b) → Stb w0 S (updH H d (some ⟨b, s, xs, false, true, false⟩)) w' g := fun g ⟨hg, hgb⟩ => by
    rcases hT g hg hgb with hg | ⟨g1, g2⟩
    · exact hTT g hg
    · refine ⟨.inr (.inr (Nat.le_trans h.bel.size g1)), g2, fun d' k' hk' hf => ?_⟩
      rcases updH_some hk' with ⟨_, he⟩ | ⟨_, he⟩
      · obtain rfl := Option.some.inj he
        exact fun e => hgb e.symm
      · have := (h.blk d' k' he).lt
        omega
  have hon : On w w' (Stb w0 S H w) (Stb w0 S (updH H d (some ⟨b, s, xs, false, true, false⟩)) w') :=
    ⟨fun g hg => ⟨hTT g hg, hb.block g hg.2.1⟩, fun g c' e' hg => ⟨c', (hb.block g (Array.getElem?_eq_some_iff.1 hg).1).trans hg, rfl⟩⟩
  refine h.next (h.bel.on hb) hon hn1 hn2 (hx _ (RC.own d b s xs.length cap h1 hm ⟨c, e, hh, hcs⟩)) (fun d' k' hk' => ?_) (fun d1 d2 k1 k2 e1 e2 he => ?_)
  · rcases updH_some hk' with ⟨_, he⟩ | ⟨_, he⟩
    · obtain rfl := Option.some.inj he
      refine ⟨.inr (Nat.le_trans h.bel.size hlow), hs, c, e, hh, by rw [hcs]; exact Nat.mul_le_mul_right _ h3, by simp, fun i x hi => ?_⟩
      have hne' : xs ≠ [] := by rintro rfl; simp at hi
      obtain ⟨g, off, hge, _, hcell⟩ := hne hne'
      obtain ⟨rfl, rfl⟩ : b = g ∧ 0 = off := by simpa using hge
      obtain ⟨g1, g2⟩ := hcell i x hi
      refine ⟨cells i, g1, (avoid_rc (hav x (List.mem_of_getElem? hi)) (hrc i x hi)).mono (on_same hT'), fun j v hj => ?_⟩
      have := g2 j v hj
      simpa [World.cell?, hh] using this
    · exact (h.blk d' k' he).mono hon (hb.block _ (h.blk d' k' he).lt)
  · rcases updH_some e1 with ⟨h1, g1⟩ | ⟨h1, g1⟩ <;> rcases updH_some e2 with ⟨h2, g2⟩ | ⟨h2, g2⟩
    · rw [h1, h2]
    · obtain rfl := Option.some.inj g1
      have := (h.blk d2 k2 g2).lt
      simp only at he
      omega
    · obtain rfl := Option.some.inj g2
      have := (h.blk d1 k1 g1).lt
      simp only at he
      omega
    · exact h.inj d1 d2 k1 k2 g1 g2 he

theorem inv_call {op : Op} {d : Nat} {f : Opd} {xs : List Opd} {imp fl : Bool} (h : mOp1 P nt op (.call d f xs imp fl) = true) :
    ∃ f' args ts, mOpd nt f' f = true ∧ mOpds nt args xs = true ∧ op = .call { callee := .value f', args := args, argTypes := ts } := by
  cases op <;> first | (simp [mOp2, VOp.base, mOp1] at h; done) | skip
  rename_i c
  obtain ⟨cal, args, ts⟩ := c
  cases cal <;> first | (simp [mOp2, VOp.base, mOp1] at h; done) | skip
  simp only [mOp2, VOp.base, mOp1, Bool.and_eq_true] at h
  exact ⟨_, _, _, h.1, h.2, rfl⟩

theorem SR.raise (h : SR w0 S nt E H n a w) : SR w0 S nt E H w.heap.size a w :=
  ⟨h.defs, h.size, h.bel, Nat.le_refl _, h.bel.size, h.tm, h.blk, h.inj⟩
theorem a_call {d : Nat} {f : Opd} {xs : List Opd} {imp fl : Bool} {K : Env → Hp → Nat → Prop} (h : SR w0 S nt E H n a w) (hm : mOp P nt o (.call d f xs imp fl) = true) (hv : va (laws P w0.heap.size nt) E H n (.call d f xs imp fl) K) : Goes P w0 S nt o a w true K := by
  obtain ⟨h1, h2, h3⟩ := mOp_dst hm rfl
  obtain ⟨f', args, ts, hf, hx, hop⟩ := inv_call h3
  unfold va at hv
  obtain ⟨g, caps, heg, hv⟩ := hv
  have hvf := h.rel.ev hf
  rw [heg] at hvf
  obtain ⟨cs, hav, hcl, hcn, hcr⟩ := hvf.fn_inv
  obtain ⟨hal, har⟩ := h.rel.evs hx
  obtain ⟨ys, ks, ⟨R, hL, hK⟩, hyl, hyr⟩ := rdA_ok (xs.map (ev E) ++ caps) ((args.map a.eval).toList ++ cs) h (by simp [hcl] at hal ⊢; omega) (fun i x v hi hv' => by
    rcases Nat.lt_or_ge i (xs.map (ev E)).length with hlt | hge
    · rw [List.getElem?_append_left hlt] at hi
      obtain ⟨u, hu, hr⟩ := har i x hi
      rw [List.getElem?_append_left (by simp at hal hlt ⊢; omega)] at hv'
      have : u = v := by
        have hv'' : (args.map a.eval)[i]? = some v := by simpa using hv'
        rw [hu] at hv''
        exact Option.some.inj hv''
      subst this
      exact hr
    · rw [List.getElem?_append_right hge] at hi
      rw [List.getElem?_append_right (by simp at hal hge ⊢; omega)] at hv'
      have he : i - (args.map a.eval).toList.length = i - (xs.map (ev E)).length := by simp at hal ⊢; omega
      rw [he] at hv'
      exact (hcr _ x v hi hv').rv (hcn x (List.mem_of_getElem? hi))) hv
  have hvs : RVs w (Sc w0 S H w ks) ys (args.map a.eval ++ cs.toArray) := by
    refine ⟨by simpa using hyl.symm, fun i x hi => ?_⟩
    have hlt : i < ((args.map a.eval).toList ++ cs).length := by rw [← hyl]; exact (List.getElem?_eq_some_iff.1 hi).1
    refine ⟨_, ?_, hyr i x _ hi (List.getElem?_eq_getElem hlt)⟩
    have := List.getElem?_eq_getElem hlt
    rw [← this]
    simp [Array.getElem?_append, List.getElem?_append]
  have hSc : ∀ b, Sc w0 S H w ks b → b < w.heap.size := fun b hb => by
    rcases hb with hb | ⟨d', k, _, hk, rfl⟩
    · exact hb.2.1
    · exact (h.blk d' k hk).lt
  rcases hL with hL | hL
  case inr =>
    obtain ⟨v, r, hr1, hsc, hR, hrv⟩ := hL w (Sc w0 S H w ks) _ hSc hvs
    have hrun : (execOp a.eval o).run P w = .ok (.value v) w := by
      rw [← hr1]
      simp [execOp, hop, resolve, hav, Deferred.ofValue, invoke]
    intro next Q hnext
    unfold Oper.wp
    rw [hrun, Oper.upon_value, h1]
    have hKr := hK _ _ r h.nle (Nat.le_refl _) hR
    rw [if_pos hsc] at hKr
    exact hnext _ _ _ _ _ (h.raise.put (scal_rv hsc hrv)) hKr (fun _ => Below.refl _ _)
  obtain ⟨⟨fn, hfn, hfb, hfname⟩, hcall⟩ := hL
  have hrun : (execOp a.eval o).run P w = .ok (.enter g (args.map a.eval ++ cs.toArray)) w := by
    have hbn : ¬ (fn.body = none) := by
      intro hb
      rw [hb] at hfb
      cases hfb
    have hnm : ¬ (fn.name = "runtime.NumGoroutine") := by simpa using hfname
    simp [execOp, hop, resolve, hav, Deferred.ofValue, invoke, callFunc, hfn, hnm, hbn]
  intro next Q hnext
  unfold Oper.wp
  rw [hrun, Oper.upon_enter, h1]
  refine (hcall w (Sc w0 S H w ks) _ hSc hvs).mono ?_
  rintro e w' ⟨v, r, hi, rfl, hhi1, hhi2, hR, hrv, hb⟩
  have hKr := hK _ _ r h.nle hhi1 hR
  have hge : w0.heap.size ≤ hi := Nat.le_trans h.bel.size hhi1
  have hq := h.quiet_world hb
  by_cases hsc : r.scal = true
  · rw [if_pos hsc] at hKr
    have hq' : SR w0 S nt E H hi a w' := ⟨hq.defs, hq.size, hq.bel, hhi2, hge, hq.tm, hq.blk, hq.inj⟩
    exact hnext _ _ _ _ _ (hq'.put (scal_rv hsc hrv)) hKr (fun _ => hb)
  · rw [if_neg hsc] at hKr
    have hfz := hq.freeze (ks := ks)
    have hfz' : SR w0 S nt E (frz H ks) hi a w' := ⟨hfz.defs, hfz.size, hfz.bel, hhi2, hge, hfz.tm, hfz.blk, hfz.inj⟩
    have hstb : ∀ g, Stb w0 S (frz H ks) w g → Stb w0 S (frz H ks) w' g := fun g hg => ⟨hg.1, Nat.lt_of_lt_of_le hg.2.1 hb.size, hg.2.2⟩
    have hTr : ∀ g, (Sc w0 S H w ks g ∨ (w.heap.size ≤ g ∧ g < w'.heap.size)) → Stb w0 S (frz H ks) w' g := fun g hg => by
      rcases hg with hg | ⟨g1, g2⟩
      · exact hstb g (sc_frz h hg)
      · refine ⟨.inr (.inr (Nat.le_trans h.bel.size g1)), g2, fun d' k' hk' _ => ?_⟩
        obtain ⟨k, hk, hkb, _⟩ := frz_some hk'
        have := (h.blk d' k hk).lt
        omega
    have plain : K (upd E d r) (frz H ks) hi → next (a.put (some d) v) w' := fun hk =>
      hnext _ _ _ _ _ (hfz'.put (hrv.mono (on_same hTr))) hk (fun _ => hb)
    unfold impv at hKr
    split at hKr
    · rename_i b s len xs'
      obtain ⟨rfl, hs0, hlo, hav', hKK⟩ := hKr
      have hrc : RC w' _ (.lsl (some (b, s)) xs'.length xs') [v] := hrv
      have hv0 : ∃ cap, v = .slice (some ⟨b, 0, none⟩) xs'.length cap := by
        obtain ⟨ad, cap, s', cells, hve, _, _, _, _, _, ht, _⟩ := hrv.lsl_inv
        obtain ⟨_, _, had, _⟩ := ht b s rfl
        rw [had] at hve
        exact ⟨cap, hve⟩
      obtain ⟨cap, rfl⟩ := hv0
      refine hnext _ _ _ _ _ (SR.import (x := .own d b s xs'.length) (h.freeze (ks := ks)) hhi2 hge hb hs0 hlo hav' (T := fun g => Sc w0 S H w ks g ∨ (w.heap.size ≤ g ∧ g < w'.heap.size)) (fun g hg _ => ?_) hrc (fun T' hT' => hT')) hKK (fun _ => hb)
      rcases hg with hg | hg
      · exact .inl (sc_frz h hg)
      · exact .inr hg
    · rename_i b s len xs' rest
      obtain ⟨rfl, hs0, hlo, hav', hrest, hKK⟩ := hKr
      obtain ⟨vs, rfl, hvl, hvr⟩ := hrv.tup_inv
      obtain ⟨u, hu, hru⟩ := hvr 0 _ rfl
      have hrc : RC w' _ (.lsl (some (b, s)) xs'.length xs') [u] := hru
      have hv0 : ∃ cap, u = .slice (some ⟨b, 0, none⟩) xs'.length cap := by
        obtain ⟨ad, cap, s', cells, hve, _, _, _, _, _, ht, _⟩ := (RV.of0 hru).lsl_inv
        obtain ⟨_, _, had, _⟩ := ht b s rfl
        rw [had] at hve
        exact ⟨cap, hve⟩
      obtain ⟨cap, rfl⟩ := hv0
      refine hnext _ _ _ _ _ (SR.import (x := .tup (.own d b s xs'.length :: rest)) (h.freeze (ks := ks)) hhi2 hge hb hs0 hlo hav' (T := fun g => Sc w0 S H w ks g ∨ (w.heap.size ≤ g ∧ g < w'.heap.size)) (fun g hg _ => ?_) hrc (fun T' hT' => ?_)) hKK (fun _ => hb)
      · rcases hg with hg | hg
        · exact .inl (sc_frz h hg)
        · exact .inr hg
      · refine ⟨vs, rfl, by simpa using hvl, fun i x hi => ?_⟩
        cases i with
        | zero =>
          obtain rfl : AV.own d b s xs'.length = x := by simpa using hi
          exact ⟨_, hu, hT'⟩
        | succ i =>
          have hi' : rest[i]? = some x := by simpa using hi
          obtain ⟨u', hu', hru'⟩ := hvr (i + 1) x (by simpa using hi')
          obtain ⟨g1, g2⟩ := hrest x (List.mem_of_getElem? hi')
          refine ⟨u', hu', ?_⟩
          have h0 := scal_rv (w' := w') (T' := T') g1 (RV.of0 hru')
          cases x <;> first | exact h0 | exact hru'.elim
    · exact plain hKr

theorem inv_callm {op : Op} {d : Nat} {f : Opd} {xs : List Opd} (h : mOp1 P nt op (.callm d f xs) = true) :
    ∃ f' args ts, mOpd nt f' f = true ∧ mOpds nt args xs = true ∧ op = .call { callee := .value f', args := args, argTypes := ts } := by
  cases op <;> first | (simp [mOp2, VOp.base, mOp1] at h; done) | skip
  rename_i c
  obtain ⟨cal, args, ts⟩ := c
  cases cal <;> first | (simp [mOp2, VOp.base, mOp1] at h; done) | skip
  simp only [mOp2, VOp.base, mOp1, Bool.and_eq_true] at h
  exact ⟨_, _, _, h.1, h.2, rfl⟩

theorem backH_some {G : Nat → Bool} {H H' : Hp} {d : Nat} {k : Blk} (h : backH G H H' d = some k) : (G d = true ∧ H' d = some k) ∨ (G d = false ∧ H d = some k) := by
  unfold backH at h
  cases hg : G d <;> simp_all
theorem givenH_some {G : Nat → Bool} {H : Hp} {d : Nat} {k : Blk} (h : givenH G H d = some k) : G d = true ∧ H d = some k := by
  unfold givenH at h
  cases hg : G d <;> simp_all
theorem givenH_of {G : Nat → Bool} {H : Hp} {d : Nat} {k : Blk} (hg : G d = true) (h : H d = some k) : givenH G H d = some k := by
  unfold givenH
  rw [if_pos hg]
  exact h

/-- A call that is handed rows to write. -/
theorem a_callm {d : Nat} {f : Opd} {xs : List Opd} {K : Env → Hp → Nat → Prop} (h : SR w0 S nt E H n a w) (hm : mOp P nt o (.callm d f xs) = true) (hv : va (laws P w0.heap.size nt) E H n (.callm d f xs) K) : Goes P w0 S nt o a w false K := by
  obtain ⟨h1, h2, h3⟩ := mOp_dst hm rfl
  obtain ⟨f', args, ts, hf, hx, hop⟩ := inv_callm h3
  simp only [va] at hv
  obtain ⟨g, caps, heg, G, R, hL, hfz, hK⟩ := hv
  have hvf := h.rel.ev hf
  rw [heg] at hvf
  obtain ⟨cs, hav, hcl, hcn, hcr⟩ := hvf.fn_inv
  obtain ⟨hal, har⟩ := h.rel.evs hx
  obtain ⟨⟨fn, hfn, hfb, hfname⟩, hcall⟩ := hL
  have hrun : (execOp a.eval o).run P w = .ok (.enter g (args.map a.eval ++ cs.toArray)) w := by
    have hbn : ¬ (fn.body = none) := by
      intro hb
      rw [hb] at hfb
      cases hfb
    have hnm : ¬ (fn.name = "runtime.NumGoroutine") := by simpa using hfname
    simp [execOp, hop, resolve, hav, Deferred.ofValue, invoke, callFunc, hfn, hnm, hbn]
  have hvs : RVs w (Stb w0 S H w) (xs.map (ev E) ++ caps) (args.map a.eval ++ cs.toArray) := by
    refine ⟨by simp [hcl] at hal ⊢; omega, fun i x hi => ?_⟩
    rcases Nat.lt_or_ge i (xs.map (ev E)).length with hlt | hge
    · rw [List.getElem?_append_left hlt] at hi
      obtain ⟨u, hu, hr⟩ := har i x hi
      refine ⟨u, ?_, hr⟩
      rw [Array.getElem?_append_left (by simp at hal hlt ⊢; omega)]
      exact hu
    · rw [List.getElem?_append_right hge] at hi
      have hlt : i - (xs.map (ev E)).length < cs.length := by rw [← hcl]; exact (List.getElem?_eq_some_iff.1 hi).1
      refine ⟨cs[i - (xs.map (ev E)).length], ?_, (hcr _ x _ hi (List.getElem?_eq_getElem hlt)).rv (hcn x (List.mem_of_getElem? hi))⟩
      rw [Array.getElem?_append_right (by simp at hal hge ⊢; omega)]
      have he : i - (args.map a.eval).size = i - (xs.map (ev E)).length := by simp at hal ⊢; omega
      rw [he]
      simp
  have hgS : ∀ b, gvn (givenH G H) b → ¬ Stb w0 S H w b ∧ Mine w0 S b ∧ b < w.heap.size ∧ ∃ d k, G d = true ∧ H d = some k ∧ k.b = b := by
    rintro b ⟨d', k, hk, rfl⟩
    obtain ⟨hg, hk⟩ := givenH_some hk
    exact ⟨fun hs => hs.2.2 d' k hk (hfz d' k hg hk) rfl, (h.blk d' k hk).low, (h.blk d' k hk).lt, d', k, hg, hk, rfl⟩
  intro next Q hnext
  unfold Oper.wp
  rw [hrun, Oper.upon_enter, h1]
  refine (hcall w (Stb w0 S H w) _ Stb.lt hvs (fun d' k hk => ?_) (fun d1 d2 k1 k2 e1 e2 he => h.inj d1 d2 k1 k2 (givenH_some e1).2 (givenH_some e2).2 he)).mono ?_
  · obtain ⟨hg, hk'⟩ := givenH_some hk
    obtain ⟨g1, g2, g3⟩ := h.blk d' k hk'
    exact ⟨hfz d' k hg hk', (hgS k.b ⟨d', k, hk, rfl⟩).1, g2, g3⟩
  rintro e w' ⟨v, r, hi, H', rfl, hhi1, hhi2, hR, hrv, hblk, hinj, hb⟩
  obtain ⟨hkeys, hKr⟩ := hK _ _ r H' h.nle hhi1 hR
  have hmine : ∀ b, Mine w ⟨Stb w0 S H w, gvn (givenH G H)⟩ b → Mine w0 S b := fun b hb' => by
    rcases hb' with hb' | hb'
    · exact (hgS b hb').2.1
    · exact .inr (Nat.le_trans h.bel.size hb')
  have hbel : Bel w0 S w' := by
    refine ⟨hb.os.trans h.bel.os, hb.tape.trans h.bel.tape, hb.output.trans h.bel.output, Nat.le_trans h.bel.size hb.size, fun k hk hn => ?_, fun g' c e hg => ?_⟩
    · refine (hb.block k (Nat.lt_of_lt_of_le hk h.bel.size) fun hg => ?_).trans (h.bel.block k hk hn)
      rcases (hgS k hg).2.1 with h' | h'
      · exact hn h'
      · omega
    · obtain ⟨c1, g1, g2⟩ := h.bel.shape g' c e hg
      obtain ⟨c2, g3, g4⟩ := hb.shape g' c1 e g1
      exact ⟨c2, g3, g4.trans g2⟩
  have hon : On w w' (Stb w0 S H w) (Stb w0 S (backH G H H') w') := by
    refine ⟨fun g' hg => ⟨⟨hg.1, Nat.lt_of_lt_of_le hg.2.1 hb.size, fun d' k hk hf' he => ?_⟩, hb.block g' hg.2.1 fun hg' => (hgS g' hg').1 hg⟩, hb.shape⟩
    rcases backH_some hk with ⟨_, hk⟩ | ⟨_, hk⟩
    · rcases (hblk d' k hk).low with hl | hl
      · rw [he] at hl
        exact (hgS g' hl).1 hg
      · have := hg.2.1
        omega
    · exact hg.2.2 d' k hk hf' he
  have hT : ∀ g', Stb w ⟨Stb w0 S H w, gvn (givenH G H)⟩ H' w' g' → Stb w0 S (backH G H H') w' g' := fun g' hg => by
    refine ⟨?_, hg.2.1, fun d' k hk hf' he => ?_⟩
    · rcases hg.1 with h' | h'
      · exact h'.1
      · exact .inr (hmine g' h')
    · rcases backH_some hk with ⟨_, hk⟩ | ⟨hgd, hk⟩
      · exact hg.2.2 d' k hk hf' he
      · rcases hg.1 with h' | h' | h'
        · exact h'.2.2 d' k hk hf' he
        · obtain ⟨_, _, _, d2, k2, g1, g2, g3⟩ := hgS g' h'
          obtain rfl := h.inj d' d2 k k2 hk g2 (he.trans g3.symm)
          rw [hgd] at g1
          cases g1
        · have := (h.blk d' k hk).lt
          omega
  have hcross : ∀ d1 d2 k1 k2, H' d1 = some k1 → G d2 = false → H d2 = some k2 → k1.b ≠ k2.b := fun d1 d2 k1 k2 e1 e2 e3 he => by
    rcases (hblk d1 k1 e1).low with hl | hl
    · obtain ⟨_, _, _, d3, k3, g1, g2, g3⟩ := hgS _ hl
      obtain rfl := h.inj d3 d2 k3 k2 g2 e3 (g3.trans he)
      rw [e2] at g1
      cases g1
    · have := (h.blk d2 k2 e3).lt
      omega
  refine hnext _ _ _ _ _ (h.next hbel hon hhi2 (Nat.le_trans h.bel.size hhi1) (hrv.mono (on_same hT)) (fun d' k hk => ?_) (fun d1 d2 k1 k2 e1 e2 he => ?_)) hKr (fun h' => by cases h')
  · rcases backH_some hk with ⟨_, hk⟩ | ⟨hgd, hk⟩
    · obtain ⟨g1, g2, g3⟩ := (hblk d' k hk).mono (on_same hT) rfl
      exact ⟨hmine _ g1, g2, g3⟩
    · refine (h.blk d' k hk).mono hon (hb.block _ (h.blk d' k hk).lt fun hg => ?_)
      obtain ⟨_, _, _, d3, k3, g1, g2, g3⟩ := hgS _ hg
      obtain rfl := h.inj d3 d' k3 k g2 hk g3
      rw [hgd] at g1
      cases g1
  · rcases backH_some e1 with ⟨g1, e1⟩ | ⟨g1, e1⟩ <;> rcases backH_some e2 with ⟨g2, e2⟩ | ⟨g2, e2⟩
    · exact hinj d1 d2 k1 k2 e1 e2 he
    · exact absurd he (hcross d1 d2 k1 k2 e1 g2 e2)
    · exact absurd he.symm (hcross d2 d1 k2 k1 e2 g1 e1)
    · exact h.inj d1 d2 k1 k2 e1 e2 he

theorem Goes.conv {g : Bool} {K K' : Env → Hp → Nat → Prop} (h : Goes P w0 S nt o a w g K') (hc : ∀ E' H' n' a' w', SR w0 S nt E' H' n' a' w' → K' E' H' n' → ∃ E2 H2 n2, SR w0 S nt E2 H2 n2 a' w' ∧ K E2 H2 n2) : Goes P w0 S nt o a w g K := by
  intro next Q hnext
  refine h next Q fun E' H' n' a' w' hs hk hb => ?_
  obtain ⟨E2, H2, n2, hs2, hk2⟩ := hc E' H' n' a' w' hs hk
  exact hnext E2 H2 n2 a' w' hs2 hk2 hb
theorem SR.le {n' : Nat} (h : SR w0 S nt E H n a w) (h1 : n' ≤ n) (h2 : w0.heap.size ≤ n') : SR w0 S nt E H n' a w :=
  ⟨h.defs, h.size, h.bel, Nat.le_trans h1 h.nle, h2, h.tm, h.blk, h.inj⟩
theorem a_uem {d s : Nat} {K : Env → Hp → Nat → Prop} (h : SR w0 S nt E H n a w) (hm : mOp P nt o (.uem d s) = true) (hv : va (laws P w0.heap.size nt) E H n (.uem d s) K) : Goes P w0 S nt o a w true K := by
  simp only [va] at hv
  obtain ⟨hH, hK⟩ := hv
  have hm' : mOp P nt o (.bls d s [] true) = true := hm
  have hd := (mOp_dst hm rfl).2.1
  refine Goes.conv (K' := fun E' H' n' => ∃ b, n ≤ b ∧ E' = upd E d (.own d b s 0) ∧ H' = updH H d (some ⟨b, s, [], false, false, true⟩) ∧ n' = b + 1) (a_bls (L := laws P w0.heap.size nt) h hm' ?_) ?_
  · simp only [va, if_true]
    exact ⟨by simp, fun b hb => ⟨b, hb, rfl, rfl, rfl⟩⟩
  · rintro E' H' n' a' w' hs ⟨b, hb, rfl, rfl, rfl⟩
    have hs1 := hs.sub (H1 := H) (fun q k hq => by
      unfold updH
      by_cases e : q = d
      · subst e; rw [hH] at hq; cases hq
      · rw [if_neg e]; exact hq)
    refine ⟨upd E d .emp, H, n, ?_, hK⟩
    have hs2 := hs1.le (n' := n) (by omega) h.nge
    refine ⟨hs2.defs, hs2.size, hs2.bel, hs2.nle, hs2.nge, fun t ht => ?_, hs2.blk, hs2.inj⟩
    have := hs2.tm t ht
    unfold upd at this ⊢
    by_cases e : t = d
    · rw [if_pos e] at this ⊢
      subst e
      have h0 := hs.tm t ht
      unfold upd at h0
      rw [if_pos rfl] at h0
      obtain ⟨cap, hav, hl, hm2, c, e', hh, hcs⟩ := h0.own_inv
      obtain ⟨_, hpos, c2, e2, hh2, _, hex, _⟩ := hs.blk t _ (by unfold updH; rw [if_pos rfl])
      simp only at hh2 hex hpos
      rw [hh2] at hh
      injection hh with hh
      injection hh with hh _ _
      subst hh
      have h1 := hex trivial
      simp only [List.length_nil, Nat.zero_mul] at h1
      rw [hcs] at h1
      have hcap : cap = 0 := by
        rcases Nat.mul_eq_zero.1 h1 with h2 | h2
        · exact h2
        · omega
      subst hcap
      rw [hav]
      exact RC.emp _
    · rw [if_neg e] at this ⊢
      exact this
theorem srcF_of {y : Opd} {ys : List AV} {C : List AV → Prop} (h : srcF (ev E y) = some ys) (hC : C ys) : srcOf E H y C := by
  unfold srcOf
  generalize ev E y = v at *
  cases v <;> simp only [srcF] at h <;> first | (cases h; done) | skip
  · obtain rfl := Option.some.inj h
    exact hC
  · split at h
    · obtain rfl := Option.some.inj h
      exact ⟨by assumption, hC⟩
    · cases h
theorem a_ucl {d s bytes : Nat} {x y : Opd} {K : Env → Hp → Nat → Prop} (h : SR w0 S nt E H n a w) (hm : mOp P nt o (.ucl d s x y bytes) = true) (hv : va (laws P w0.heap.size nt) E H n (.ucl d s x y bytes) K) : Goes P w0 S nt o a w true K := by
  simp only [va] at hv
  obtain ⟨hH, hx, ys, hy, hsz, hb1, hb2, hK0, hK1⟩ := hv
  have hm' : mOp P nt o (.app d s x y bytes true false) = true := hm
  refine Goes.conv (K' := fun E' H' n' => (ys = [] ∧ E' = upd E d .emp ∧ H' = H ∧ n' = n) ∨ (ys ≠ [] ∧ ∃ b, n ≤ b ∧ b < n' ∧ E' = upd E d (.own d b s ys.length) ∧ H' = updH H d (some ⟨b, s, ys, false, true, false⟩))) (a_app (L := laws P w0.heap.size nt) h hm' ?_) ?_
  · unfold va
    refine srcF_of hy ?_
    rw [hx]
    exact ⟨hsz, fun he => .inl ⟨he, rfl, rfl, rfl⟩, fun he => ⟨hb1, hb2, fun b n' g1 g2 => .inr ⟨he, b, g1, g2, rfl, rfl⟩⟩⟩
  · rintro E' H' n' a' w' hs (⟨he, rfl, rfl, rfl⟩ | ⟨he, b, g1, g2, rfl, rfl⟩)
    · exact ⟨_, _, _, hs, hK0 he⟩
    · refine ⟨_, _, n, hs.le (by omega) h.nge, hK1 he b g1 fun q k hq hkb => ?_⟩
      have hqd : q ≠ d := by
        rintro rfl
        rw [hH] at hq
        cases hq
      exact hqd (hs.inj q d k _ (by unfold updH; rw [if_neg hqd]; exact hq) (by unfold updH; rw [if_pos rfl]) hkb)

/-- which operations leave all that was there as it was -/
def VOp.grows : VOp → Bool
  | .st _ _ _ => false
  | .app _ _ _ _ _ fr _ => fr
  | .callm _ _ _ => false
  | _ => true

theorem va_sound {vo : VOp} {K : Env → Hp → Nat → Prop} (h : SR w0 S nt E H n a w) (hm : mOp P nt o vo = true) (hv : va (laws P w0.heap.size nt) E H n vo K) : Goes P w0 S nt o a w vo.grows K := by
  have quiet : vq E H vo (fun d v => K (upd E d v) H n) → Goes P w0 S nt o a w vo.grows K := fun hq => by
    obtain ⟨d, x, u, hd, _, hK, hu, hrun⟩ := vq_sound (K := fun d v => K (upd E d v) H n) h.blk h.rel hm hq
    exact Goes.value hd (hrun w (fun _ => Below.refl _ _)) (h.put hu) hK (fun _ => Below.refl _ _)
  cases vo <;> first
    | exact quiet hv
    | exact a_alc h hm hv
    | exact a_box h hm hv
    | exact a_mks h hm hv
    | exact a_bls h hm hv
    | exact a_st h hm hv
    | exact a_app h hm hv
    | exact a_call h hm hv
    | exact a_callm h hm hv
    | exact a_uem h hm hv
    | (exfalso; simp [mOp, mOp2] at hm; done)
    | exact a_ucl h hm hv
end
end Go.AVM
