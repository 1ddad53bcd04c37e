/- Regions: in the order of the text, or in whatever order they may come up. -/
import Derived.Test.YtjbniljmgnmdnaaVF
import Derived.OrdersHeld
namespace Go.AVM
set_option linter.unusedSimpArgs false
open Go.RowKit
set_option linter.unusedVariables false

def VOp.quiet : VOp → Bool
  | .alc _ _ _ | .box _ _ _ | .mks _ _ _ _ _ | .bls _ _ _ _ | .st _ _ _ | .app _ _ _ _ _ _ _ | .call _ _ _ _ _ | .callm _ _ _ => false
  | _ => true

def mG (P : Program) (nt : Nat) (ops : Array Oper) (i : Nat) (g : GOp) : Bool :=
  match ops[i]? with
  | none => false
  | some o => mOp P nt o g.o && match o.guard, g.g with
    | none, none => true
    | some (j, want), some (t, want') => (match (ops[j]?).bind (·.dst) with | some t' => t == t' && decide (t < nt) | none => false) && want == want'
    | _, _ => false

def mGs (P : Program) (nt : Nat) (ops : Array Oper) : List Nat → List GOp → Bool
  | [], [] => true
  | i :: is, g :: gs => mG P nt ops i g && mGs P nt ops is gs
  | _, _ => false

/-- operation i comes ahead of operation j, by some steps -/
def anc (ops : Array Oper) : Nat → Nat → Nat → Bool
  | 0, _, _ => false
  | n + 1, j, i => match ops[j]? with
    | none => false
    | some o => o.after.any fun e => Region.binds .any e && (e.on == i || anc ops n e.on i)

def freeB (ops : Array Oper) (late : Array Bool) (m : Bool) (listed : Array Bool) (i : Nat) : Bool :=
  match ops[i]? with
  | none => false
  | some oi => (List.range ops.size).all fun j => j == i || listed.getD j true || match ops[j]? with
      | some oj => oj.after.any (fun e => Region.binds .any e && e.on == i) || (oi.apart ops oj && (!m || !late.getD j true || anc ops ops.size j i))
      | none => true

def chkDraw (P : Program) (nt : Nat) (ops : Array Oper) (late : Array Bool) : Array Bool → List Nat → List GOp → Bool
  | listed, [], [] => (Region.ready .any ops listed).isEmpty
  | listed, i :: is, g :: gs => mG P nt ops i g && late.getD i true == !g.o.grows && (if g.o.quiet then (Region.ready .any ops listed).contains i && freeB ops late g.o.mem listed i else Region.ready .any ops listed == [i]) && chkDraw P nt ops late (listed.setIfInBounds i true) is gs
  | _, _, _ => false

/-- what is listed is listed with all that comes ahead of it -/
def Down (ops : Array Oper) (listed : Array Bool) : Prop :=
  ∀ j o, listed.getD j false = true → ops[j]? = some o → ∀ e ∈ o.after, Region.binds .any e = true → listed.getD e.on false = true

section
variable {P : Program} {ops : Array Oper} {Q : Exit → Act → World → Prop} {late : Array Bool}

theorem Down.none (n : Nat) : Down ops (Array.replicate n false) := by
  intro j o h
  rw [Array.getD_eq_getD_getElem?, Array.getElem?_replicate] at h
  split at h <;> simp at h
theorem Down.set {listed : Array Bool} (h : Down ops listed) {i : Nat} (hi : i ∈ Region.ready .any ops listed) : Down ops (listed.setIfInBounds i true) := by
  intro j o hj ho e he hb
  by_cases hji : i = j
  · subst hji
    obtain ⟨_, o', ho', hall⟩ := mem_ready.1 hi
    rw [ho] at ho'
    obtain rfl := Option.some.inj ho'
    exact getD_set_true (hall e he hb)
  · rw [getD_set_ne false hji] at hj
    exact getD_set_true (h j o hj ho e he hb)
theorem anc_listed {listed : Array Bool} (h : Down ops listed) : ∀ (n j i : Nat) (o : Oper), ops[j]? = some o → (∀ e ∈ o.after, Region.binds .any e = true → listed.getD e.on false = true) → anc ops n j i = true → listed.getD i false = true
  | 0, _, _, _, _, _, ha => by simp [anc] at ha
  | n + 1, j, i, o, ho, hall, ha => by
    simp only [anc, ho] at ha
    obtain ⟨q, hq, h2⟩ := Array.any_eq_true.1 ha
    simp only [Bool.and_eq_true, Bool.or_eq_true, beq_iff_eq] at h2
    have hl := hall _ (Array.getElem_mem hq) h2.1
    rcases h2.2 with h3 | h3
    · rw [← h3]; exact hl
    · cases ho' : ops[(o.after[q]).on]? with
      | none =>
        cases n <;> simp [anc, ho'] at h3
      | some o' => exact anc_listed h n _ i o' ho' (fun e he hb => h _ o' hl ho' e he hb) h3

/-- Whatever order is picked; behind each operation that isn't late, all that was there is as it was. -/
def wpAnyB (P : Program) (ops : Array Oper) (late : Array Bool) (Q : Exit → Act → World → Prop) : Nat → Array Bool → Act → World → Prop
  | 0, listed, a, w => Region.ready .any ops listed = [] ∧ Q .normal a w
  | fuel + 1, listed, a, w => (Region.ready .any ops listed = [] → Q .normal a w) ∧
    ∀ i ∈ Region.ready .any ops listed, wpOp P ops Q i (fun a' w' => (late.getD i true = false → Below w.heap.size w w') ∧ wpAnyB P ops late Q fuel (listed.setIfInBounds i true) a' w') a w

theorem wpAny_of_B : ∀ (fuel : Nat) (listed : Array Bool) (a : Act) (w : World), wpAnyB P ops late Q fuel listed a w → wpAny P .any ops Q fuel listed a w
  | 0, _, _, _, h => h
  | fuel + 1, _, _, _, h => ⟨h.1, fun i hi => wpOp_mono (fun a' w' h' => wpAny_of_B fuel _ a' w' h'.2) (h.2 i hi)⟩

theorem below_trans {w w' w'' : World} (h : Below w.heap.size w w') (h' : Below w'.heap.size w' w'') : Below w.heap.size w w'' := h.trans (h'.mono h.size)

theorem wpAnyB_first {i : Nat} {oi : Oper} {v : Value} {m : Bool} (hi : ops[i]? = some oi) (hsel : ∀ (j : Nat) (o : Oper) cs b, ops[j]? = some o → o.op ≠ .select cs b) (hQ : ∀ c a w, ¬ Q (.panic c) a w) (hlate : late.getD i true = false) (w0 : World) :
    ∀ (fuel : Nat) (listed : Array Bool) (a : Act) (w : World), Down ops listed →
      (∀ j oj, ops[j]? = some oj → j ≠ i → listed.getD j true = false → (∀ e ∈ oj.after, Region.binds .any e = true → e.on ≠ i) → oi.apart ops oj = true ∧ (m = false ∨ late.getD j true = false ∨ anc ops ops.size j i = true)) →
      i ∈ Region.ready .any ops listed → (m = true → Below w0.heap.size w0 w) → YieldsIf P ops (fun w => m = true → Below w0.heap.size w0 w) oi v a →
      wpAnyB P ops late Q fuel (listed.setIfInBounds i true) (a.put oi.dst v) w → wpAnyB P ops late Q (fuel + 1) listed a w := by
  intro fuel
  induction fuel with
  | zero =>
    intro listed a w _ _ hr hS hy H
    refine ⟨fun h => (by rw [h] at hr; cases hr), fun j hj => ?_⟩
    by_cases hji : j = i
    · subst hji; exact hy.wpOp hi hS ⟨fun _ => Below.refl _ _, H⟩
    · have := ready_mono hj hji
      rw [H.1] at this
      cases this
  | succ fuel ih =>
    intro listed a w hdown hfree hr hS hy H
    refine ⟨fun h => (by rw [h] at hr; cases hr), fun j hj => ?_⟩
    by_cases hji : j = i
    · subst hji; exact hy.wpOp hi hS ⟨fun _ => Below.refl _ _, H⟩
    · have h1 := H.2 j (ready_mono hj hji)
      obtain ⟨hjun, oj, hoj, hall⟩ := mem_ready.1 hj
      have hiun : listed.getD i false = false := by
        have h0 := (mem_ready.1 hr).1
        rcases Nat.lt_or_ge i listed.size with h' | h'
        · simpa [h'] using h0
        · simp [Array.getElem?_eq_none h']
      have hnot : ∀ e ∈ oj.after, Region.binds .any e = true → e.on ≠ i := fun e he hb heq => by
        have h1 := hall e he hb
        rw [heq, hiun] at h1
        cases h1
      obtain ⟨hap, hlj⟩ := hfree j oj hoj hji hjun hnot
      have hlj' : m = false ∨ late.getD j true = false := by
        rcases hlj with h | h | h
        · exact .inl h
        · exact .inr h
        · have := anc_listed hdown _ j i oj hoj hall h
          rw [hiun] at this
          cases this
      have h2 := wpOp_putIf hoj hap (fun cs b => hsel i oi cs b hi) (fun cs b => hsel j oj cs b hoj) (fun c a w h => absurd h (hQ c _ w)) hy h1
      refine wpOp_mono (fun a' w' h3 => ?_) h2
      obtain ⟨hy', hb', h4⟩ := h3
      refine ⟨hb', ih (listed.setIfInBounds j true) a' w' (hdown.set hj) (fun k ok hk hki hun hno => ?_) (ready_mono hr (Ne.symm hji)) (fun hm => ?_) hy' ?_⟩
      · refine hfree k ok hk hki ?_ hno
        by_cases hjk : j = k
        · subst hjk; exact hjun
        · rw [getD_set_ne true hjk] at hun; exact hun
      · rcases hlj' with h | h
        · rw [h] at hm; cases hm
        · exact below_trans (hS hm) (hb' h)
      · rw [Array.setIfInBounds_comm _ _ hji]
        exact h4

theorem freeB_spec {i : Nat} {oi : Oper} {m : Bool} {listed : Array Bool} (hi : ops[i]? = some oi) (h : freeB ops late m listed i = true) (j : Nat) (oj : Oper)
    (hj : ops[j]? = some oj) (hne : j ≠ i) (hun : listed.getD j true = false) (hno : ∀ e ∈ oj.after, Region.binds .any e = true → e.on ≠ i) :
    oi.apart ops oj = true ∧ (m = false ∨ late.getD j true = false ∨ anc ops ops.size j i = true) := by
  simp only [freeB, hi, List.all_eq_true, List.mem_range] at h
  have h1 := h j (Array.getElem?_eq_some_iff.1 hj).1
  simp only [hj, Bool.or_eq_true, beq_iff_eq, hne, false_or, hun, Bool.false_eq_true, Bool.and_eq_true, Bool.not_eq_true'] at h1
  rcases h1 with h1 | h1
  · obtain ⟨q, hq, h2⟩ := Array.any_eq_true.1 h1
    simp only [Bool.and_eq_true, beq_iff_eq] at h2
    exact absurd h2.2 (hno _ (Array.getElem_mem hq) h2.1)
  · exact ⟨h1.1, h1.2.elim (fun h => h.elim .inl fun h => .inr (.inl h)) fun h => .inr (.inr h)⟩
end

section
variable {P : Program} {w0 w : World} {S : Sg} {nt n : Nat} {E : Env} {H : Hp} {a : Act} {ops : Array Oper}

theorem SR.yield (h : SR w0 S nt E H n a w) {t : Nat} (ht : t < nt) {b : Bool} (he : E t = .bool b) {j : Nat} (hj : (ops[j]?).bind (·.dst) = some t) : yielded ops a.tmps j = some b := by
  have hv := h.tm t ht
  rw [he] at hv
  have := hv.bool_inv
  unfold yielded
  rw [hj]
  have hlt : t < a.tmps.size := by rw [h.size]; exact ht
  simp only [Option.bind_some]
  rw [Array.getD_eq_getD_getElem?, Array.getElem?_eq_getElem hlt] at this
  rw [Array.getElem?_eq_getElem hlt]
  simp only [Option.getD_some] at this
  rw [this]

theorem SR.yield0 (h : SR w0 S nt E H n a w) {t : Nat} (ht : t < nt) (he : E t = .tup []) {j : Nat} (hj : (ops[j]?).bind (·.dst) = some t) : yielded ops a.tmps j = none := by
  have hv := h.tm t ht
  rw [he] at hv
  obtain ⟨cs, hc, _⟩ := hv
  unfold yielded
  rw [hj]
  have hlt : t < a.tmps.size := by rw [h.size]; exact ht
  simp only [Option.bind_some]
  rw [Array.getD_eq_getD_getElem?, Array.getElem?_eq_getElem hlt] at hc
  rw [Array.getElem?_eq_getElem hlt]
  simp only [Option.getD_some] at hc
  rw [hc]

theorem va_quiet {L : Laws} {vo : VOp} {K : Env → Hp → Nat → Prop} (hq : vo.quiet = true) (h : va L E H n vo K) : vq E H vo (fun d v => K (upd E d v) H n) := by
  cases vo <;> first | exact h | (simp [VOp.quiet] at hq)

/-- One operation under its guard. -/
theorem vgop_sound {i : Nat} {g : GOp} {K : Env → Hp → Nat → Prop} {next : Act → World → Prop} {Q : Exit → Act → World → Prop} (h : SR w0 S nt E H n a w) (hm : mG P nt ops i g = true) (hv : vgop (laws P w0.heap.size nt) E H n g g.o.dst K)
    (hnext : ∀ E' H' n' a' w', SR w0 S nt E' H' n' a' w' → K E' H' n' → (g.o.grows = true → Below w.heap.size w w') → next a' w') : wpOp P ops Q i next a w := by
  unfold mG at hm
  unfold wpOp
  cases ho : ops[i]? with
  | none => rw [ho] at hm; cases hm
  | some o =>
    rw [ho] at hm
    simp only [Bool.and_eq_true] at hm
    obtain ⟨hmo, hmg⟩ := hm
    have run : va (laws P w0.heap.size nt) E H n g.o K → o.wp P a w next Q := fun hva =>
      va_sound h hmo hva next Q fun E' H' n' a' w' h1 h2 h3 => hnext E' H' n' a' w' h1 h2 h3
    dsimp only
    cases hg : o.guard with
    | none =>
      rw [hg] at hmg
      have hw : Region.wanted o (yielded ops a.tmps) = true := by simp [Region.wanted, hg]
      rw [if_pos hw]
      unfold vgop at hv
      cases hgg : g.g with
      | none => rw [hgg] at hv; exact .inl (run hv)
      | some p => rw [hgg] at hmg; cases hmg
    | some jw =>
      obtain ⟨j, want⟩ := jw
      rw [hg] at hmg
      cases hgg : g.g with
      | none => rw [hgg] at hmg; cases hmg
      | some p =>
        obtain ⟨t, want'⟩ := p
        rw [hgg] at hmg
        simp only [Bool.and_eq_true, beq_iff_eq] at hmg
        obtain ⟨hjt, rfl⟩ := hmg
        split at hjt <;> first | (cases hjt; done) | skip
        rename_i t' ht'
        simp only [Bool.and_eq_true, beq_iff_eq, decide_eq_true_eq] at hjt
        obtain ⟨rfl, htn⟩ := hjt
        have skip : (match g.o.dst with | some d => K (upd E d (.tup [])) H n | none => K E H n) → next (a.put o.dst undef) w := fun hv => by
          cases hd : g.o.dst with
          | none =>
            rw [hd] at hv
            have hod : o.dst = none := by
              have hmo' := hmo
              simp only [mOp, hd, Bool.and_eq_true, beq_iff_eq] at hmo'
              exact hmo'.1
            rw [hod]
            exact hnext _ _ _ _ _ h hv fun _ => Below.refl _ _
          | some d =>
            rw [hd] at hv
            obtain ⟨hod, _⟩ := mOp_dst hmo hd
            rw [hod]
            exact hnext _ _ _ _ _ (h.put (x := .tup []) (u := undef) ⟨#[], rfl, rfl, by simp⟩) hv fun _ => Below.refl _ _
        unfold vgop at hv
        rw [hgg] at hv
        dsimp only at hv
        split at hv
        · rename_i b hb
          have hy := h.yield htn hb ht'
          have hw : Region.wanted o (yielded ops a.tmps) = (b == want) := by
            simp [Region.wanted, hg, hy]
          rw [hw]
          by_cases hbw : b = want
          · subst hbw
            rw [if_pos rfl] at hv
            rw [if_pos (by simp)]
            exact .inl (run hv)
          · rw [if_neg hbw] at hv
            rw [if_neg (by simpa using hbw)]
            exact skip hv
        · rename_i hb
          have hy := h.yield0 htn hb ht'
          have hw : Region.wanted o (yielded ops a.tmps) = false := by
            simp [Region.wanted, hg, hy]
          rw [hw, if_neg (by simp)]
          exact skip hv
        · exact hv.elim

theorem vops_sound {K : Env → Hp → Nat → Prop} {Q : Exit → Act → World → Prop} (hQ : ∀ E' H' n' a' w', SR w0 S nt E' H' n' a' w' → K E' H' n' → Q .normal a' w') :
    ∀ (is : List Nat) (gs : List GOp) {E : Env} {H : Hp} {n : Nat} {a : Act} {w : World}, SR w0 S nt E H n a w → mGs P nt ops is gs = true → vops (laws P w0.heap.size nt) gs K E H n → wpOps P ops Q is a w
  | [], [], E, H, n, a, w, h, _, hv => hQ _ _ _ _ _ h hv
  | i :: is, g :: gs, E, H, n, a, w, h, hm, hv => by
    simp only [mGs, Bool.and_eq_true] at hm
    rw [wpOps_cons]
    exact vgop_sound h hm.1 hv fun E' H' n' a' w' h1 h2 _ => vops_sound hQ is gs h1 hm.2 h2
  | [], g :: gs, _, _, _, _, _, _, hm, _ => by simp [mGs] at hm
  | i :: is, [], _, _, _, _, _, _, hm, _ => by simp [mGs] at hm

theorem draw_sound {late : Array Bool} {K : Env → Hp → Nat → Prop} {Q : Exit → Act → World → Prop} (hQ : ∀ E' H' n' a' w', SR w0 S nt E' H' n' a' w' → K E' H' n' → Q .normal a' w') (hQp : ∀ c a w, ¬ Q (.panic c) a w) (hsel : Region.noSelect ops = true) :
    ∀ (is : List Nat) (gs : List GOp) (listed : Array Bool) {E : Env} {H : Hp} {n : Nat} {a : Act} {w : World}, Down ops listed → SR w0 S nt E H n a w → chkDraw P nt ops late listed is gs = true → vops (laws P w0.heap.size nt) gs K E H n → wpAnyB P ops late Q is.length listed a w
  | [], [], listed, E, H, n, a, w, hdown, h, hm, hv => by
    simp only [chkDraw, List.isEmpty_iff] at hm
    exact ⟨hm, hQ _ _ _ _ _ h hv⟩
  | i :: is, g :: gs, listed, E, H, n, a, w, hdown, h, hm, hv => by
    simp only [chkDraw, Bool.and_eq_true, beq_iff_eq] at hm
    obtain ⟨⟨⟨hmg, hlate⟩, hmo⟩, hrest⟩ := hm
    have ih := fun (hd : Down ops (listed.setIfInBounds i true)) (E : Env) (H : Hp) (n : Nat) (a : Act) (w : World) => draw_sound (late := late) hQ hQp hsel is gs (listed.setIfInBounds i true) (E := E) (H := H) (n := n) (a := a) (w := w) hd
    by_cases hq : g.o.quiet = true
    · rw [if_pos hq] at hmo
      simp only [Bool.and_eq_true] at hmo
      obtain ⟨hready, hfree⟩ := hmo
      have hready' : i ∈ Region.ready .any ops listed := by simpa using hready
      have hgr : g.o.grows = true := by
        cases hgo : g.o <;> first | rfl | (rw [hgo] at hq; simp [VOp.quiet] at hq)
      rw [hgr] at hlate
      obtain ⟨_, oi, hoi, _⟩ := mem_ready.1 hready'
      have key : ∃ v, YieldsIf P ops (fun w' => g.o.mem = true → Below w.heap.size w w') oi v a ∧ wpAnyB P ops late Q is.length (listed.setIfInBounds i true) (a.put oi.dst v) w := by
        have hmg' := hmg
        unfold mG at hmg'
        rw [hoi] at hmg'
        simp only [Bool.and_eq_true] at hmg'
        obtain ⟨hmo', hgd⟩ := hmg'
        have run : Region.wanted oi (yielded ops a.tmps) = true → va (laws P w0.heap.size nt) E H n g.o (fun E' H' n' => vops (laws P w0.heap.size nt) gs K E' H' n') → ∃ v, YieldsIf P ops (fun w' => g.o.mem = true → Below w.heap.size w w') oi v a ∧ wpAnyB P ops late Q is.length (listed.setIfInBounds i true) (a.put oi.dst v) w := fun hw hva => by
          obtain ⟨d, x, u, hd, _, hK, hu, hrun⟩ := vq_sound (K := fun d v => vops (laws P w0.heap.size nt) gs K (upd E d v) H n) h.blk h.rel hmo' (va_quiet hq hva)
          refine ⟨u, .inl ⟨hw, fun w' hb => hrun w' hb⟩, ?_⟩
          rw [hd]
          exact ih (hdown.set hready') _ _ _ _ _ (h.put hu) hrest hK
        unfold vops vgop at hv
        cases hg : oi.guard with
        | none =>
          rw [hg] at hgd
          cases hgg : g.g with
          | none => rw [hgg] at hv; exact run (by simp [Region.wanted, hg]) hv
          | some p => rw [hgg] at hgd; cases hgd
        | some jw =>
          obtain ⟨j, want⟩ := jw
          rw [hg] at hgd
          cases hgg : g.g with
          | none => rw [hgg] at hgd; cases hgd
          | some p =>
            obtain ⟨t, want'⟩ := p
            rw [hgg] at hgd
            simp only [Bool.and_eq_true, beq_iff_eq] at hgd
            obtain ⟨hjt, rfl⟩ := hgd
            split at hjt <;> first | (cases hjt; done) | skip
            rename_i t' ht'
            simp only [Bool.and_eq_true, beq_iff_eq, decide_eq_true_eq] at hjt
            obtain ⟨rfl, htn⟩ := hjt
            have skip : Region.wanted oi (yielded ops a.tmps) = false → (match g.o.dst with | some d => vops (laws P w0.heap.size nt) gs K (upd E d (.tup [])) H n | none => vops (laws P w0.heap.size nt) gs K E H n) →
                ∃ v, YieldsIf P ops (fun w' => g.o.mem = true → Below w.heap.size w w') oi v a ∧ wpAnyB P ops late Q is.length (listed.setIfInBounds i true) (a.put oi.dst v) w := fun hw hv => by
              obtain ⟨d, hd⟩ : ∃ d, g.o.dst = some d := by
                cases hgo : g.o <;> first | exact ⟨_, rfl⟩ | (rw [hgo] at hq; simp [VOp.quiet] at hq)
              rw [hd] at hv
              obtain ⟨hod, _⟩ := mOp_dst hmo' hd
              refine ⟨undef, .inr ⟨hw, rfl⟩, ?_⟩
              rw [hod]
              exact ih (hdown.set hready') _ _ _ _ _ (h.put (x := .tup []) (u := undef) ⟨#[], rfl, rfl, by simp⟩) hrest hv
            rw [hgg] at hv
            dsimp only at hv
            split at hv
            · rename_i b hb
              have hy := h.yield htn hb ht'
              have hw : Region.wanted oi (yielded ops a.tmps) = (b == want) := by
                simp [Region.wanted, hg, hy]
              by_cases hbw : b = want
              · subst hbw
                rw [if_pos rfl] at hv
                exact run (by rw [hw]; simp) hv
              · rw [if_neg hbw] at hv
                exact skip (by rw [hw]; simpa using hbw) hv
            · rename_i hb
              have hy := h.yield0 htn hb ht'
              exact skip (by simp [Region.wanted, hg, hy]) hv
            · exact hv.elim
      obtain ⟨v, hy, hw⟩ := key
      exact wpAnyB_first hoi (Region.noSelect_spec hsel) hQp hlate w is.length listed a w hdown (freeB_spec hoi hfree) hready' (fun _ => Below.refl _ _) hy hw
    · rw [if_neg hq] at hmo
      have hr : Region.ready .any ops listed = [i] := by simpa using hmo
      refine ⟨fun h0 => (by rw [hr] at h0; cases h0), fun j hj => ?_⟩
      rw [hr] at hj
      obtain rfl := List.mem_singleton.1 hj
      exact vgop_sound h hmg hv fun E' H' n' a' w' h1 h2 h3 => ⟨fun hl => h3 (by rw [hlate] at hl; simpa using hl), ih (hdown.set (by rw [hr]; exact List.mem_singleton.2 rfl)) _ _ _ _ _ h1 hrest h2⟩
  | [], g :: gs, _, _, _, _, _, _, _, _, hm, _ => by simp [chkDraw] at hm
  | i :: is, [], _, _, _, _, _, _, _, _, hm, _ => by simp [chkDraw] at hm
end
end Go.AVM
