/- Regions: in the order of the text, or in whatever order they may come up. -/
import Derived.Test.YtnanbjnadkoekaaDoorVF
import Derived.OrdersHeld
namespace Go.AVM
set_option linter.unusedSimpArgs false
open Go.RowKit
set_option linter.unusedVariables false

def VOp.quiet : VOp → Bool
  | .alc _ _ _ | .box _ _ _ | .mks _ _ _ _ _ | .bls _ _ _ _ | .st _ _ _ | .app _ _ _ _ _ _ _ | .call _ _ _ _ _ | .callm _ _ _ | .uem _ _ | .ucl _ _ _ _ _ | .uend => false
  | _ => true

def mG (P : Program) (nt : Nat) (ops : Array Oper) (i : Nat) (g : GOp) : Bool :=
  match ops[i]? with
  | none => false
  | some o => mOp P nt o g.o && match o.guard, g.g with
    | none, none => true
    | some (j, want), some (t, want') => (match (ops[j]?).bind (·.dst) with | some t' => t == t' && decide (t < nt) | none => false) && want == want'
    | _, _ => false

def mGs (P : Program) (nt : Nat) (ops : Array Oper) : List Nat → List GOp → Bool
  | [], [] => true
  | i :: is, g :: gs => mG P nt ops i g && mGs P nt ops is gs
  | _, _ => false

/-- operation i comes ahead of operation j, by some steps -/
def anc (ops : Array Oper) : Nat → Nat → Nat → Bool
  | 0, _, _ => false
  | n + 1, j, i => match ops[j]? with
    | none => false
    | some o => o.after.any fun e => Region.binds .any e && (e.on == i || anc ops n e.on i)

def freeB (ops : Array Oper) (late : Array Bool) (m : Bool) (listed : Array Bool) (i : Nat) : Bool :=
  match ops[i]? with
  | none => false
  | some oi => (List.range ops.size).all fun j => j == i || listed.getD j true || match ops[j]? with
      | some oj => oj.after.any (fun e => Region.binds .any e && e.on == i) || (oi.apart ops oj && (!m || !late.getD j true || anc ops ops.size j i))
      | none => true

/-- an operation that may come in any order among its likes -/
def VOp.isU : VOp → Bool
  | .uem _ _ | .ucl _ _ _ _ _ => true
  | _ => false
def notT (d : Nat) : Opd → Bool
  | .t n => n != d
  | .c _ => true
def uFree : VOp → VOp → Bool
  | .uem d _, .uem d' _ => d != d'
  | .uem d _, .ucl d' _ x y _ => d != d' && notT d x && notT d y
  | .ucl d _ x y _, .uem d' _ => d != d' && notT d' x && notT d' y
  | .ucl d _ x y _, .ucl d' _ x' y' _ => d != d' && notT d x' && notT d y' && notT d' x && notT d' y
  | _, _ => false
def pairsU (ops : Array Oper) : List (Nat × GOp) → Bool
  | [] => true
  | p :: us => us.all (fun q => q.1 != p.1 && (anc ops ops.size q.1 p.1 || uFree p.2.o q.2.o)) && pairsU ops us
def preOk (ops : Array Oper) : Array Bool → List (Nat × GOp) → Bool
  | _, [] => true
  | listed, p :: us => (match ops[p.1]? with | some o => o.after.all (fun e => !Region.binds .any e || listed.getD e.on false) | none => false) && preOk ops (listed.setIfInBounds p.1 true) us
def setAll (listed : Array Bool) (us : List (Nat × GOp)) : Array Bool := us.foldl (fun l p => l.setIfInBounds p.1 true) listed
/-- a run of such operations: all others wait for them -/
def chkU (P : Program) (nt : Nat) (ops : Array Oper) (late : Array Bool) (listed : Array Bool) (us : List (Nat × GOp)) : Bool :=
  us.all (fun p => mG P nt ops p.1 p.2 && p.2.o.isU && p.2.g.isNone && late.getD p.1 true == false && listed.getD p.1 true == false) && pairsU ops us && preOk ops listed us &&
  (List.range ops.size).all (fun j => listed.getD j true || us.any (fun p => p.1 == j) || us.all (fun p => anc ops ops.size j p.1))

def VOp.isEnd : VOp → Bool
  | .uend => true
  | _ => false
theorem VOp.isEnd_spec : ∀ {o : VOp}, o.isEnd = true → o = .uend := by
  intro o h
  cases o <;> first | rfl | cases h
def chkDraw (P : Program) (nt : Nat) (ops : Array Oper) (late : Array Bool) : Array Bool → List (Nat × GOp) → List Nat → List GOp → Bool
  | listed, us, is, [] => is.isEmpty && chkU P nt ops late listed us && (Region.ready .any ops (setAll listed us)).isEmpty
  | listed, us, is, g :: gs =>
    if g.o.isEnd then g.g.isNone && chkU P nt ops late listed us && chkDraw P nt ops late (setAll listed us) [] is gs
    else match is with
      | [] => false
      | i :: is => if g.o.isU && g.g.isNone then chkDraw P nt ops late listed (us ++ [(i, g)]) is gs else
        chkU P nt ops late listed us && mG P nt ops i g && late.getD i true == !g.o.grows && (if g.o.quiet then (Region.ready .any ops (setAll listed us)).contains i && freeB ops late g.o.mem (setAll listed us) i else Region.ready .any ops (setAll listed us) == [i]) && chkDraw P nt ops late ((setAll listed us).setIfInBounds i true) [] is gs

/-- what is listed is listed with all that comes ahead of it -/
def Down (ops : Array Oper) (listed : Array Bool) : Prop :=
  ∀ j o, listed.getD j false = true → ops[j]? = some o → ∀ e ∈ o.after, Region.binds .any e = true → listed.getD e.on false = true

section
variable {P : Program} {ops : Array Oper} {Q : Exit → Act → World → Prop} {late : Array Bool}

theorem Down.none (n : Nat) : Down ops (Array.replicate n false) := by
  intro j o h
  rw [Array.getD_eq_getD_getElem?, Array.getElem?_replicate] at h
  split at h <;> simp at h
theorem Down.set {listed : Array Bool} (h : Down ops listed) {i : Nat} (hi : i ∈ Region.ready .any ops listed) : Down ops (listed.setIfInBounds i true) := by
  intro j o hj ho e he hb
  by_cases hji : i = j
  · subst hji
    obtain ⟨_, o', ho', hall⟩ := mem_ready.1 hi
    rw [ho] at ho'
    obtain rfl := Option.some.inj ho'
    exact getD_set_true (hall e he hb)
  · rw [getD_set_ne false hji] at hj
    exact getD_set_true (h j o hj ho e he hb)
theorem anc_listed {listed : Array Bool} (h : Down ops listed) : ∀ (n j i : Nat) (o : Oper), ops[j]? = some o → (∀ e ∈ o.after, Region.binds .any e = true → listed.getD e.on false = true) → anc ops n j i = true → listed.getD i false = true
  | 0, _, _, _, _, _, ha => by simp [anc] at ha
  | n + 1, j, i, o, ho, hall, ha => by
    simp only [anc, ho] at ha
    obtain ⟨q, hq, h2⟩ := Array.any_eq_true.1 ha
    simp only [Bool.and_eq_true, Bool.or_eq_true, beq_iff_eq] at h2
    have hl := hall _ (Array.getElem_mem hq) h2.1
    rcases h2.2 with h3 | h3
    · rw [← h3]; exact hl
    · cases ho' : ops[(o.after[q]).on]? with
      | none =>
        cases n <;> simp [anc, ho'] at h3
      | some o' => exact anc_listed h n _ i o' ho' (fun e he hb => h _ o' hl ho' e he hb) h3

/-- Whatever order is picked; behind each operation that isn't late, all that was there is as it was. -/
def wpAnyB (P : Program) (ops : Array Oper) (late : Array Bool) (Q : Exit → Act → World → Prop) : Nat → Array Bool → Act → World → Prop
  | 0, listed, a, w => Region.ready .any ops listed = [] ∧ Q .normal a w
  | fuel + 1, listed, a, w => (Region.ready .any ops listed = [] → Q .normal a w) ∧
    ∀ i ∈ Region.ready .any ops listed, wpOp P ops Q i (fun a' w' => (late.getD i true = false → Below w.heap.size w w') ∧ wpAnyB P ops late Q fuel (listed.setIfInBounds i true) a' w') a w

theorem wpAny_of_B : ∀ (fuel : Nat) (listed : Array Bool) (a : Act) (w : World), wpAnyB P ops late Q fuel listed a w → wpAny P .any ops Q fuel listed a w
  | 0, _, _, _, h => h
  | fuel + 1, _, _, _, h => ⟨h.1, fun i hi => wpOp_mono (fun a' w' h' => wpAny_of_B fuel _ a' w' h'.2) (h.2 i hi)⟩

theorem below_trans {w w' w'' : World} (h : Below w.heap.size w w') (h' : Below w'.heap.size w' w'') : Below w.heap.size w w'' := h.trans (h'.mono h.size)

theorem wpAnyB_first {i : Nat} {oi : Oper} {v : Value} {m : Bool} (hi : ops[i]? = some oi) (hsel : ∀ (j : Nat) (o : Oper) cs b, ops[j]? = some o → o.op ≠ .select cs b) (hQ : ∀ c a w, ¬ Q (.panic c) a w) (hlate : late.getD i true = false) (w0 : World) :
    ∀ (fuel : Nat) (listed : Array Bool) (a : Act) (w : World), Down ops listed →
      (∀ j oj, ops[j]? = some oj → j ≠ i → listed.getD j true = false → (∀ e ∈ oj.after, Region.binds .any e = true → e.on ≠ i) → oi.apart ops oj = true ∧ (m = false ∨ late.getD j true = false ∨ anc ops ops.size j i = true)) →
      i ∈ Region.ready .any ops listed → (m = true → Below w0.heap.size w0 w) → YieldsIf P ops (fun w => m = true → Below w0.heap.size w0 w) oi v a →
      wpAnyB P ops late Q fuel (listed.setIfInBounds i true) (a.put oi.dst v) w → wpAnyB P ops late Q (fuel + 1) listed a w := by
  intro fuel
  induction fuel with
  | zero =>
    intro listed a w _ _ hr hS hy H
    refine ⟨fun h => (by rw [h] at hr; cases hr), fun j hj => ?_⟩
    by_cases hji : j = i
    · subst hji; exact hy.wpOp hi hS ⟨fun _ => Below.refl _ _, H⟩
    · have := ready_mono hj hji
      rw [H.1] at this
      cases this
  | succ fuel ih =>
    intro listed a w hdown hfree hr hS hy H
    refine ⟨fun h => (by rw [h] at hr; cases hr), fun j hj => ?_⟩
    by_cases hji : j = i
    · subst hji; exact hy.wpOp hi hS ⟨fun _ => Below.refl _ _, H⟩
    · have h1 := H.2 j (ready_mono hj hji)
      obtain ⟨hjun, oj, hoj, hall⟩ := mem_ready.1 hj
      have hiun : listed.getD i false = false := by
        have h0 := (mem_ready.1 hr).1
        rcases Nat.lt_or_ge i listed.size with h' | h'
        · simpa [h'] using h0
        · simp [Array.getElem?_eq_none h']
      have hnot : ∀ e ∈ oj.after, Region.binds .any e = true → e.on ≠ i := fun e he hb heq => by
        have h1 := hall e he hb
        rw [heq, hiun] at h1
        cases h1
      obtain ⟨hap, hlj⟩ := hfree j oj hoj hji hjun hnot
      have hlj' : m = false ∨ late.getD j true = false := by
        rcases hlj with h | h | h
        · exact .inl h
        · exact .inr h
        · have := anc_listed hdown _ j i oj hoj hall h
          rw [hiun] at this
          cases this
      have h2 := wpOp_putIf hoj hap (fun cs b => hsel i oi cs b hi) (fun cs b => hsel j oj cs b hoj) (fun c a w h => absurd h (hQ c _ w)) hy h1
      refine wpOp_mono (fun a' w' h3 => ?_) h2
      obtain ⟨hy', hb', h4⟩ := h3
      refine ⟨hb', ih (listed.setIfInBounds j true) a' w' (hdown.set hj) (fun k ok hk hki hun hno => ?_) (ready_mono hr (Ne.symm hji)) (fun hm => ?_) hy' ?_⟩
      · refine hfree k ok hk hki ?_ hno
        by_cases hjk : j = k
        · subst hjk; exact hjun
        · rw [getD_set_ne true hjk] at hun; exact hun
      · rcases hlj' with h | h
        · rw [h] at hm; cases hm
        · exact below_trans (hS hm) (hb' h)
      · rw [Array.setIfInBounds_comm _ _ hji]
        exact h4

theorem freeB_spec {i : Nat} {oi : Oper} {m : Bool} {listed : Array Bool} (hi : ops[i]? = some oi) (h : freeB ops late m listed i = true) (j : Nat) (oj : Oper)
    (hj : ops[j]? = some oj) (hne : j ≠ i) (hun : listed.getD j true = false) (hno : ∀ e ∈ oj.after, Region.binds .any e = true → e.on ≠ i) :
    oi.apart ops oj = true ∧ (m = false ∨ late.getD j true = false ∨ anc ops ops.size j i = true) := by
  simp only [freeB, hi, List.all_eq_true, List.mem_range] at h
  have h1 := h j (Array.getElem?_eq_some_iff.1 hj).1
  simp only [hj, Bool.or_eq_true, beq_iff_eq, hne, false_or, hun, Bool.false_eq_true, Bool.and_eq_true, Bool.not_eq_true'] at h1
  rcases h1 with h1 | h1
  · obtain ⟨q, hq, h2⟩ := Array.any_eq_true.1 h1
    simp only [Bool.and_eq_true, beq_iff_eq] at h2
    exact absurd h2.2 (hno _ (Array.getElem_mem hq) h2.1)
  · exact ⟨h1.1, h1.2.elim (fun h => h.elim .inl fun h => .inr (.inl h)) fun h => .inr (.inr h)⟩
end

section
variable {P : Program} {w0 w : World} {S : Sg} {nt n : Nat} {E : Env} {H : Hp} {a : Act} {ops : Array Oper}

theorem SR.yield (h : SR w0 S nt E H n a w) {t : Nat} (ht : t < nt) {b : Bool} (he : E t = .bool b) {j : Nat} (hj : (ops[j]?).bind (·.dst) = some t) : yielded ops a.tmps j = some b := by
  have hv := h.tm t ht
  rw [he] at hv
  have := hv.bool_inv
  unfold yielded
  rw [hj]
  have hlt : t < a.tmps.size := by rw [h.size]; exact ht
  simp only [Option.bind_some]
  rw [Array.getD_eq_getD_getElem?, Array.getElem?_eq_getElem hlt] at this
  rw [Array.getElem?_eq_getElem hlt]
  simp only [Option.getD_some] at this
  rw [this]

theorem SR.yield0 (h : SR w0 S nt E H n a w) {t : Nat} (ht : t < nt) (he : E t = .tup []) {j : Nat} (hj : (ops[j]?).bind (·.dst) = some t) : yielded ops a.tmps j = none := by
  have hv := h.tm t ht
  rw [he] at hv
  obtain ⟨cs, hc, _⟩ := hv
  unfold yielded
  rw [hj]
  have hlt : t < a.tmps.size := by rw [h.size]; exact ht
  simp only [Option.bind_some]
  rw [Array.getD_eq_getD_getElem?, Array.getElem?_eq_getElem hlt] at hc
  rw [Array.getElem?_eq_getElem hlt]
  simp only [Option.getD_some] at hc
  rw [hc]

theorem va_quiet {L : Laws} {vo : VOp} {K : Env → Hp → Nat → Prop} (hq : vo.quiet = true) (h : va L E H n vo K) : vq E H vo (fun d v => K (upd E d v) H n) := by
  cases vo <;> first | exact h | (simp [VOp.quiet] at hq)

/-- One operation under its guard. -/
theorem vgop_sound {i : Nat} {g : GOp} {K : Env → Hp → Nat → Prop} {next : Act → World → Prop} {Q : Exit → Act → World → Prop} (h : SR w0 S nt E H n a w) (hm : mG P nt ops i g = true) (hv : vgop (laws P w0.heap.size nt) E H n g g.o.dst K)
    (hnext : ∀ E' H' n' a' w', SR w0 S nt E' H' n' a' w' → K E' H' n' → (g.o.grows = true → Below w.heap.size w w') → next a' w') : wpOp P ops Q i next a w := by
  unfold mG at hm
  unfold wpOp
  cases ho : ops[i]? with
  | none => rw [ho] at hm; cases hm
  | some o =>
    rw [ho] at hm
    simp only [Bool.and_eq_true] at hm
    obtain ⟨hmo, hmg⟩ := hm
    have run : va (laws P w0.heap.size nt) E H n g.o K → o.wp P a w next Q := fun hva =>
      va_sound h hmo hva next Q fun E' H' n' a' w' h1 h2 h3 => hnext E' H' n' a' w' h1 h2 h3
    dsimp only
    cases hg : o.guard with
    | none =>
      rw [hg] at hmg
      have hw : Region.wanted o (yielded ops a.tmps) = true := by simp [Region.wanted, hg]
      rw [if_pos hw]
      unfold vgop at hv
      cases hgg : g.g with
      | none => rw [hgg] at hv; exact .inl (run hv)
      | some p => rw [hgg] at hmg; cases hmg
    | some jw =>
      obtain ⟨j, want⟩ := jw
      rw [hg] at hmg
      cases hgg : g.g with
      | none => rw [hgg] at hmg; cases hmg
      | some p =>
        obtain ⟨t, want'⟩ := p
        rw [hgg] at hmg
        simp only [Bool.and_eq_true, beq_iff_eq] at hmg
        obtain ⟨hjt, rfl⟩ := hmg
        split at hjt <;> first | (cases hjt; done) | skip
        rename_i t' ht'
        simp only [Bool.and_eq_true, beq_iff_eq, decide_eq_true_eq] at hjt
        obtain ⟨rfl, htn⟩ := hjt
        have skip : (match g.o.dst with | some d => K (upd E d (.tup [])) H n | none => K E H n) → next (a.put o.dst undef) w := fun hv => by
          cases hd : g.o.dst with
          | none =>
            rw [hd] at hv
            have hod : o.dst = none := by
              have hmo' := hmo
              simp only [mOp, hd, Bool.and_eq_true, beq_iff_eq] at hmo'
              exact hmo'.1
            rw [hod]
            exact hnext _ _ _ _ _ h hv fun _ => Below.refl _ _
          | some d =>
            rw [hd] at hv
            obtain ⟨hod, _⟩ := mOp_dst hmo hd
            rw [hod]
            exact hnext _ _ _ _ _ (h.put (x := .tup []) (u := undef) ⟨#[], rfl, rfl, by simp⟩) hv fun _ => Below.refl _ _
        unfold vgop at hv
        rw [hgg] at hv
        dsimp only at hv
        split at hv
        · rename_i b hb
          have hy := h.yield htn hb ht'
          have hw : Region.wanted o (yielded ops a.tmps) = (b == want) := by
            simp [Region.wanted, hg, hy]
          rw [hw]
          by_cases hbw : b = want
          · subst hbw
            rw [if_pos rfl] at hv
            rw [if_pos (by simp)]
            exact .inl (run hv)
          · rw [if_neg hbw] at hv
            rw [if_neg (by simpa using hbw)]
            exact skip hv
        · rename_i hb
          have hy := h.yield0 htn hb ht'
          have hw : Region.wanted o (yielded ops a.tmps) = false := by
            simp [Region.wanted, hg, hy]
          rw [hw, if_neg (by simp)]
          exact skip hv
        · exact hv.elim

theorem vops_sound {K : Env → Hp → Nat → Prop} {Q : Exit → Act → World → Prop} (hQ : ∀ E' H' n' a' w', SR w0 S nt E' H' n' a' w' → K E' H' n' → Q .normal a' w') :
    ∀ (is : List Nat) (gs : List GOp) {E : Env} {H : Hp} {n : Nat} {a : Act} {w : World}, SR w0 S nt E H n a w → mGs P nt ops is gs = true → vops (laws P w0.heap.size nt) gs K E H n → wpOps P ops Q is a w
  | [], [], E, H, n, a, w, h, _, hv => hQ _ _ _ _ _ h hv
  | i :: is, g :: gs, E, H, n, a, w, h, hm, hv => by
    simp only [mGs, Bool.and_eq_true] at hm
    rw [wpOps_cons]
    exact vgop_sound h hm.1 hv fun E' H' n' a' w' h1 h2 _ => vops_sound hQ is gs h1 hm.2 h2
  | [], g :: gs, _, _, _, _, _, _, hm, _ => by simp [mGs] at hm
  | i :: is, [], _, _, _, _, _, _, hm, _ => by simp [mGs] at hm

theorem upd_comm {E : Env} {d d' : Nat} {v v' : AV} (h : d ≠ d') : upd (upd E d v) d' v' = upd (upd E d' v') d v := by
  funext t
  unfold upd
  by_cases h1 : t = d
  · subst h1
    rw [if_neg h, if_pos rfl, if_pos rfl]
  · rw [if_neg h1, if_neg h1]
theorem updH_comm {H : Hp} {d d' : Nat} {v v' : Option Blk} (h : d ≠ d') : updH (updH H d v) d' v' = updH (updH H d' v') d v := by
  funext t
  unfold updH
  by_cases h1 : t = d
  · subst h1
    rw [if_neg h, if_pos rfl, if_pos rfl]
  · rw [if_neg h1, if_neg h1]
theorem ev_upd {E : Env} {d : Nat} {v : AV} {x : Opd} (h : notT d x = true) : ev (upd E d v) x = ev E x := by
  cases x with
  | t n =>
    have : n ≠ d := by simpa [notT] using h
    simp [ev, upd, this]
  | c v => rfl
theorem updH_ne {H : Hp} {d d' : Nat} {v : Option Blk} (h : d' ≠ d) : updH H d v d' = H d' := by
  unfold updH
  rw [if_neg h]
def Bd (H : Hp) : Prop := ∃ B, ∀ q k, H q = some k → k.b < B
theorem Bd.upd (h : Bd H) (d : Nat) (k : Blk) : Bd (updH H d (some k)) := by
  obtain ⟨B, hB⟩ := h
  refine ⟨max B (k.b + 1), fun q k' hq => ?_⟩
  rcases updH_some hq with ⟨_, e⟩ | ⟨_, e⟩
  · obtain rfl := Option.some.inj e
    omega
  · have := hB q k' e
    omega
theorem va_mono {L : Laws} {o : VOp} {K K' : Env → Hp → Nat → Prop} (hu : o.isU = true) (hb : Bd H) (hv : va L E H n o K) (hk : ∀ E H n, Bd H → K E H n → K' E H n) : va L E H n o K' := by
  cases o <;> first | (cases hu; done) | skip
  · exact ⟨hv.1, hk _ _ _ hb hv.2⟩
  · obtain ⟨h1, h2, ys, h3, h4, h5, h6, h7, h8⟩ := hv
    exact ⟨h1, h2, ys, h3, h4, h5, h6, fun e => hk _ _ _ hb (h7 e), fun e b g1 g2 => hk _ _ _ (hb.upd _ _) (h8 e b g1 g2)⟩
/-- which comes first is all the same -/
theorem va_swap {L : Laws} {o o' : VOp} {K : Env → Hp → Nat → Prop} (hf : uFree o o' = true) (hbd : Bd H) (hv : va L E H n o fun E H n => va L E H n o' K) : va L E H n o' fun E H n => va L E H n o K := by
  have fresh : ∃ b, n ≤ b ∧ ∀ q k, H q = some k → k.b ≠ b := by
    obtain ⟨B, hB⟩ := hbd
    exact ⟨max n B, by omega, fun q k hq => by have := hB q k hq; omega⟩
  cases o <;> first | (simp [uFree] at hf; done) | skip
  · rename_i d s
    cases o' <;> first | (simp [uFree] at hf; done) | skip
    · rename_i d' s'
      have hd : d ≠ d' := by simpa [uFree] using hf
      obtain ⟨h1, h2, h3⟩ := hv
      exact ⟨h2, h1, by rw [← upd_comm hd]; exact h3⟩
    · rename_i d' s' x y by'
      simp only [uFree, Bool.and_eq_true, bne_iff_ne, ne_eq] at hf
      obtain ⟨⟨hd, hx⟩, hy⟩ := hf
      obtain ⟨h1, h2, h3, ys, h4, h5, h6, h7, h8, h9⟩ := hv
      rw [ev_upd hx] at h3
      rw [ev_upd hy] at h4
      refine ⟨h2, h3, ys, h4, h5, h6, h7, fun e => ⟨h1, by rw [← upd_comm hd]; exact h8 e⟩, fun e b g1 g2 => ⟨by rw [updH_ne hd]; exact h1, by rw [← upd_comm hd]; exact h9 e b g1 g2⟩⟩
  · rename_i d s x y by'
    cases o' <;> first | (simp [uFree] at hf; done) | skip
    · rename_i d' s'
      simp only [uFree, Bool.and_eq_true, bne_iff_ne, ne_eq] at hf
      obtain ⟨⟨hd, hx⟩, hy⟩ := hf
      obtain ⟨h1, h2, ys, h4, h5, h6, h7, h8, h9⟩ := hv
      have hd' : d' ≠ d := fun e => hd e.symm
      have hH : H d' = none := by
        by_cases e : ys = []
        · exact (h8 e).1
        · obtain ⟨b, hb⟩ := fresh
          have := (h9 e b hb.1 hb.2).1
          rwa [updH_ne hd'] at this
      refine ⟨hH, h1, by rw [ev_upd hx]; exact h2, ys, by rw [ev_upd hy]; exact h4, h5, h6, h7, fun e => ?_, fun e b g1 g2 => ?_⟩
      · rw [← upd_comm hd]; exact (h8 e).2
      · rw [← upd_comm hd]; exact (h9 e b g1 g2).2
    · rename_i d' s' x' y' by''
      simp only [uFree, Bool.and_eq_true, bne_iff_ne, ne_eq] at hf
      obtain ⟨⟨⟨⟨hd, hx'⟩, hy'⟩, hx⟩, hy⟩ := hf
      obtain ⟨h1, h2, ys, h4, h5, h6, h7, h8, h9⟩ := hv
      have hd' : d' ≠ d := fun e => hd e.symm
      obtain ⟨b0, hb0⟩ := fresh
      obtain ⟨hH, hx0, ys', hy0, g5, g6, g7⟩ : H d' = none ∧ ev E x' = .emp ∧ ∃ ys', srcF (ev E y') = some ys' ∧ (∀ z ∈ ys', z.sz = s') ∧ ys'.length * by'' ≤ 140737488355328 ∧ ys'.length ≤ 140737488355328 := by
        by_cases e : ys = []
        · obtain ⟨q1, q2, ys', q3, q4, q5, q6, _⟩ := h8 e
          rw [ev_upd hx'] at q2
          rw [ev_upd hy'] at q3
          exact ⟨q1, q2, ys', q3, q4, q5, q6⟩
        · obtain ⟨q1, q2, ys', q3, q4, q5, q6, _⟩ := h9 e b0 hb0.1 hb0.2
          rw [updH_ne hd'] at q1
          rw [ev_upd hx'] at q2
          rw [ev_upd hy'] at q3
          exact ⟨q1, q2, ys', q3, q4, q5, q6⟩
      have same : ∀ {E1 : Env} {H1 : Hp} {v : AV} (_ : E1 = upd E d v) {K1 K2 : List AV → Prop}, (∃ zs, srcF (ev E1 y') = some zs ∧ K1 zs) → K1 ys' := by
        rintro E1 H1 v rfl K1 K2 ⟨zs, q1, q2⟩
        rw [ev_upd hy', hy0] at q1
        obtain rfl := Option.some.inj q1
        exact q2
      refine ⟨hH, hx0, ys', hy0, g5, g6, g7, fun e' => ?_, fun e' b' q1 q2 => ?_⟩
      · refine ⟨h1, by rw [ev_upd hx]; exact h2, ys, by rw [ev_upd hy]; exact h4, h5, h6, h7, fun e => ?_, fun e b r1 r2 => ?_⟩
        · obtain ⟨_, _, zs, z1, _, _, _, z2, _⟩ := h8 e
          rw [ev_upd hy', hy0] at z1
          obtain rfl := Option.some.inj z1
          rw [← upd_comm hd]
          exact z2 e'
        · obtain ⟨_, _, zs, z1, _, _, _, z2, _⟩ := h9 e b r1 r2
          rw [ev_upd hy', hy0] at z1
          obtain rfl := Option.some.inj z1
          rw [← upd_comm hd]
          exact z2 e'
      · refine ⟨by rw [updH_ne hd]; exact h1, by rw [ev_upd hx]; exact h2, ys, by rw [ev_upd hy]; exact h4, h5, h6, h7, fun e => ?_, fun e b r1 r2 => ?_⟩
        · obtain ⟨_, _, zs, z1, _, _, _, _, z2⟩ := h8 e
          rw [ev_upd hy', hy0] at z1
          obtain rfl := Option.some.inj z1
          rw [← upd_comm hd]
          exact z2 e' b' q1 q2
        · have hne : b' ≠ b := r2 d' _ (by unfold updH; rw [if_pos rfl])
          obtain ⟨_, _, zs, z1, _, _, _, _, z2⟩ := h9 e b r1 fun q k hq => by
            by_cases hqd : q = d'
            · subst hqd
              rw [hH] at hq
              cases hq
            · exact r2 q k (by rw [updH_ne hqd]; exact hq)
          rw [ev_upd hy', hy0] at z1
          obtain rfl := Option.some.inj z1
          rw [← upd_comm hd, ← updH_comm hd]
          exact z2 e' b' q1 fun q k hq => by
            rcases updH_some hq with ⟨_, hk⟩ | ⟨_, hq⟩
            · obtain rfl := Option.some.inj hk
              exact fun e => hne e.symm
            · exact q2 q k hq
theorem bubble {L : Laws} {K : Env → Hp → Nat → Prop} (g : GOp) (hg : g.o.isU = true ∧ g.g = none) (post : List GOp) : ∀ (pre : List GOp), (∀ p ∈ pre, p.o.isU = true ∧ p.g = none ∧ uFree p.o g.o = true) → ∀ {E : Env} {H : Hp} {n : Nat}, Bd H → vops L (pre ++ g :: post) K E H n → vops L (g :: (pre ++ post)) K E H n
  | [], _, E, H, n, _, h => h
  | p :: pre, hp, E, H, n, hb, h => by
    obtain ⟨h1, h2, h3⟩ := hp p List.mem_cons_self
    have h' : va L E H n p.o fun E H n => vops L (pre ++ g :: post) K E H n := by
      simpa [vops, vgop, h2] using h
    have h4 := va_mono h1 hb h' fun E H n hb hv => bubble g hg post pre (fun q hq => hp q (List.mem_cons_of_mem _ hq)) hb hv
    have h5 : va L E H n p.o fun E H n => va L E H n g.o fun E H n => vops L (pre ++ post) K E H n := by
      simpa [vops, vgop, hg.2] using h4
    have h6 := va_swap h3 hb h5
    simpa [vops, vgop, hg.2, h2] using h6
theorem SR.bd (h : SR w0 S nt E H n a w) : Bd H := ⟨w.heap.size, fun q k hq => (h.blk q k hq).lt⟩

theorem setAll_app (listed : Array Bool) (us vs : List (Nat × GOp)) : setAll listed (us ++ vs) = setAll (setAll listed us) vs := by simp [setAll]
theorem setAll_set (listed : Array Bool) (i : Nat) (us : List (Nat × GOp)) : (setAll listed us).setIfInBounds i true = setAll (listed.setIfInBounds i true) us := by
  induction us generalizing listed with
  | nil => rfl
  | cons p us ih =>
    simp only [setAll, List.foldl_cons] at ih ⊢
    rw [ih]
    by_cases h : p.1 = i
    · rw [h]
    · rw [Array.setIfInBounds_comm _ _ h]
theorem pairsU_sub : ∀ {pre : List (Nat × GOp)} {p : Nat × GOp} {post : List (Nat × GOp)}, pairsU ops (pre ++ p :: post) = true → pairsU ops (pre ++ post) = true ∧ (∀ q ∈ pre, q.1 ≠ p.1 ∧ (anc ops ops.size p.1 q.1 = true ∨ uFree q.2.o p.2.o = true)) ∧ ∀ q ∈ post, q.1 ≠ p.1 := by
  intro pre p post h
  induction pre with
  | nil =>
    simp only [List.nil_append, pairsU, Bool.and_eq_true, List.all_eq_true, bne_iff_ne, ne_eq] at h
    exact ⟨h.2, by simp, fun q hq => (h.1 q hq).1⟩
  | cons q pre ih =>
    simp only [List.cons_append, pairsU, Bool.and_eq_true, List.all_eq_true, Bool.or_eq_true, bne_iff_ne, ne_eq] at h
    obtain ⟨h1, h2, h3⟩ := ih h.2
    refine ⟨?_, fun r hr => ?_, h3⟩
    · simp only [List.cons_append, pairsU, Bool.and_eq_true, List.all_eq_true, Bool.or_eq_true, bne_iff_ne, ne_eq]
      refine ⟨fun r hr => h.1 r ?_, h1⟩
      rcases List.mem_append.1 hr with hr | hr
      · exact List.mem_append_left _ hr
      · exact List.mem_append_right _ (List.mem_cons_of_mem _ hr)
    · rcases List.mem_cons.1 hr with rfl | hr
      · obtain ⟨g1, g2⟩ := h.1 p (List.mem_append_right _ List.mem_cons_self)
        exact ⟨fun e => g1 e.symm, g2⟩
      · exact h2 r hr
theorem preOk_step : ∀ {pre : List (Nat × GOp)} {p : Nat × GOp} {post : List (Nat × GOp)} {listed : Array Bool}, preOk ops listed (pre ++ p :: post) = true → preOk ops (listed.setIfInBounds p.1 true) (pre ++ post) = true := by
  intro pre p post
  induction pre with
  | nil =>
    intro listed h
    simp only [List.nil_append, preOk, Bool.and_eq_true] at h
    exact h.2
  | cons q pre ih =>
    intro listed h
    simp only [List.cons_append, preOk, Bool.and_eq_true] at h ⊢
    refine ⟨?_, ?_⟩
    · cases ho : ops[q.1]? with
      | none => rw [ho] at h; exact absurd h.1 (by simp)
      | some o =>
        rw [ho] at h
        simp only [Array.all_eq_true, Bool.or_eq_true, Bool.not_eq_true'] at h ⊢
        intro i hi
        exact (h.1 i hi).imp id fun h' => getD_set_true h'
    · by_cases e : q.1 = p.1
      · have := ih h.2
        rw [e] at this ⊢
        exact this
      · rw [Array.setIfInBounds_comm _ _ (fun h => e h.symm)]
        exact ih h.2
structure UOK (P : Program) (nt : Nat) (ops : Array Oper) (late listed : Array Bool) (us : List (Nat × GOp)) : Prop where
  each : ∀ p ∈ us, mG P nt ops p.1 p.2 = true ∧ p.2.o.isU = true ∧ p.2.g = none ∧ late.getD p.1 true = false ∧ listed.getD p.1 true = false
  pairs : pairsU ops us = true
  rest : ∀ j, j < ops.size → listed.getD j true = true ∨ (∃ p ∈ us, p.1 = j) ∨ ∀ p ∈ us, anc ops ops.size j p.1 = true
  pre : preOk ops listed us = true
theorem chkU_spec {late listed : Array Bool} {us : List (Nat × GOp)} (h : chkU P nt ops late listed us = true) : UOK P nt ops late listed us := by
  simp only [chkU, Bool.and_eq_true, List.all_eq_true, beq_iff_eq, Option.isNone_iff_eq_none, List.mem_range, Bool.or_eq_true, List.any_eq_true] at h
  obtain ⟨⟨⟨h1, h2⟩, h3⟩, h4⟩ := h
  refine ⟨fun p hp => ?_, h2, fun j hj => ?_, h3⟩
  · obtain ⟨⟨⟨⟨a1, a2⟩, a3⟩, a4⟩, a5⟩ := h1 p hp
    exact ⟨a1, a2, a3, a4, a5⟩
  · rcases h4 j hj with (h | ⟨p, hp, e⟩) | h
    · exact .inl h
    · exact .inr (.inl ⟨p, hp, e⟩)
    · exact .inr (.inr h)
theorem urun {late : Array Bool} {K : Env → Hp → Nat → Prop} {Q : Exit → Act → World → Prop} (gs : List GOp) (fuel : Nat) : ∀ (m : Nat) (us : List (Nat × GOp)) (listed : Array Bool) {E : Env} {H : Hp} {n : Nat} {a : Act} {w : World}, us.length = m → Down ops listed → SR w0 S nt E H n a w →
    UOK P nt ops late listed us → vops (laws P w0.heap.size nt) (us.map (·.2) ++ gs) K E H n →
    (∀ {E : Env} {H : Hp} {n : Nat} {a : Act} {w : World}, Down ops (setAll listed us) → SR w0 S nt E H n a w → vops (laws P w0.heap.size nt) gs K E H n → wpAnyB P ops late Q fuel (setAll listed us) a w) → wpAnyB P ops late Q (m + fuel) listed a w := by
  intro m
  induction m with
  | zero =>
    intro us listed E H n a w hm hd h hu hv cont
    obtain rfl := List.eq_nil_of_length_eq_zero hm
    rw [Nat.zero_add]
    exact cont hd h hv
  | succ m ih =>
    intro us listed E H n a w hm hd h hu hv cont
    rw [Nat.add_right_comm]
    have hlist : ∀ p ∈ us, listed.getD p.1 false = false := fun p hp => by
      have := (hu.each p hp).2.2.2.2
      rcases Nat.lt_or_ge p.1 listed.size with h' | h'
      · simpa [h'] using this
      · simp [Array.getElem?_eq_none h']
    refine ⟨fun h0 => ?_, fun i hi => ?_⟩
    · exfalso
      cases us with
      | nil => simp at hm
      | cons p us =>
        have hp := hu.pre
        simp only [preOk, Bool.and_eq_true] at hp
        have hr : p.1 ∈ Region.ready .any ops listed := by
          refine mem_ready.2 ⟨(hu.each p List.mem_cons_self).2.2.2.2, ?_⟩
          cases ho : ops[p.1]? with
          | none => rw [ho] at hp; exact absurd hp.1 (by simp)
          | some o =>
            rw [ho] at hp
            refine ⟨o, rfl, fun e he hb => ?_⟩
            obtain ⟨q, hq, rfl⟩ := Array.getElem_of_mem he
            have := Array.all_eq_true.1 hp.1 q hq
            simp only [hb, Bool.not_true, Bool.false_or] at this
            exact this
        rw [h0] at hr
        cases hr
    · obtain ⟨hun, oi, hoi, hall⟩ := mem_ready.1 hi
      have hlt := (Array.getElem?_eq_some_iff.1 hoi).1
      have hanc : ∀ p ∈ us, anc ops ops.size i p.1 = true → False := fun p hp ha => by
        have := anc_listed hd _ i p.1 oi hoi hall ha
        rw [hlist p hp] at this
        cases this
      obtain ⟨p, hp, rfl⟩ : ∃ p ∈ us, p.1 = i := by
        rcases hu.rest i hlt with h1 | h1 | h1
        · rw [hun] at h1; cases h1
        · exact h1
        · exfalso
          cases us with
          | nil => simp at hm
          | cons p us => exact hanc p List.mem_cons_self (h1 p List.mem_cons_self)
      obtain ⟨pre, post, rfl⟩ := List.append_of_mem hp
      obtain ⟨q1, q2, q3⟩ := pairsU_sub hu.pairs
      obtain ⟨e1, e2, e3, e4, e5⟩ := hu.each p hp
      have hv' : vops (laws P w0.heap.size nt) (p.2 :: (pre.map (·.2) ++ (post.map (·.2) ++ gs))) K E H n := by
        refine bubble p.2 ⟨e2, e3⟩ (post.map (·.2) ++ gs) (pre.map (·.2)) (fun g hg => ?_) h.bd (by simpa using hv)
        obtain ⟨q, hq, rfl⟩ := List.mem_map.1 hg
        obtain ⟨_, f2, f3, _⟩ := hu.each q (List.mem_append_left _ hq)
        refine ⟨f2, f3, ?_⟩
        rcases (q2 q hq).2 with ha | hf
        · exact (hanc q (List.mem_append_left _ hq) ha).elim
        · exact hf
      have hne : ∀ q ∈ pre ++ post, q.1 ≠ p.1 := fun q hq => by
        rcases List.mem_append.1 hq with hq | hq
        · exact (q2 q hq).1
        · exact q3 q hq
      refine vgop_sound h e1 hv' fun E' H' n' a' w' s1 s2 s3 => ⟨fun _ => s3 ?_, ?_⟩
      · cases hgo : p.2.o <;> first | rfl | (rw [hgo] at e2; cases e2)
      · refine ih (pre ++ post) (listed.setIfInBounds p.1 true) (by simp at hm ⊢; omega) (hd.set hi) s1 ⟨fun q hq => ?_, q1, fun j hj => ?_, preOk_step hu.pre⟩ (by simpa using s2) ?_
        · have hq' : q ∈ pre ++ p :: post := by
            rcases List.mem_append.1 hq with hq | hq
            · exact List.mem_append_left _ hq
            · exact List.mem_append_right _ (List.mem_cons_of_mem _ hq)
          obtain ⟨f1, f2, f3, f4, f5⟩ := hu.each q hq'
          exact ⟨f1, f2, f3, f4, by rw [getD_set_ne true fun e => hne q hq e.symm]; exact f5⟩
        · rcases hu.rest j hj with h1 | ⟨q, hq, rfl⟩ | h1
          · refine .inl ?_
            by_cases e : p.1 = j
            · rw [e, Array.getD_eq_getD_getElem?, Array.getElem?_setIfInBounds]
              split
              · split <;> simp
              · simp_all
            · rw [getD_set_ne true e]
              exact h1
          · by_cases hqp : q.1 = p.1
            · refine .inl ?_
              rw [hqp, Array.getD_eq_getD_getElem?, Array.getElem?_setIfInBounds]
              split
              · split <;> simp
              · simp_all
            · refine .inr (.inl ⟨q, ?_, rfl⟩)
              rcases List.mem_append.1 hq with hq | hq
              · exact List.mem_append_left _ hq
              · rcases List.mem_cons.1 hq with e | hq
                · exact absurd (by rw [e]) hqp
                · exact List.mem_append_right _ hq
          · refine .inr (.inr fun q hq => h1 q ?_)
            rcases List.mem_append.1 hq with hq | hq
            · exact List.mem_append_left _ hq
            · exact List.mem_append_right _ (List.mem_cons_of_mem _ hq)
        · have hset : setAll (listed.setIfInBounds p.1 true) (pre ++ post) = setAll listed (pre ++ p :: post) := by
            rw [setAll_app, setAll_app, ← setAll_set]
            rfl
          rw [hset]
          intro E H n a w hd hs hk
          exact cont hd hs hk

theorem draw_sound {late : Array Bool} {K : Env → Hp → Nat → Prop} {Q : Exit → Act → World → Prop} (hQ : ∀ E' H' n' a' w', SR w0 S nt E' H' n' a' w' → K E' H' n' → Q .normal a' w') (hQp : ∀ c a w, ¬ Q (.panic c) a w) (hsel : Region.noSelect ops = true) :
    ∀ (gs : List GOp) (is : List Nat) (listed : Array Bool) (us : List (Nat × GOp)) {E : Env} {H : Hp} {n : Nat} {a : Act} {w : World}, Down ops listed → SR w0 S nt E H n a w → chkDraw P nt ops late listed us is gs = true → vops (laws P w0.heap.size nt) (us.map (·.2) ++ gs) K E H n → wpAnyB P ops late Q (us.length + is.length) listed a w := by
  intro gs
  induction gs with
  | nil =>
    intro is listed us E H n a w hdown h hm hv
    simp only [chkDraw, Bool.and_eq_true, List.isEmpty_iff] at hm
    obtain ⟨⟨rfl, hm1⟩, hm2⟩ := hm
    refine urun [] 0 us.length us listed rfl hdown h (chkU_spec hm1) hv fun hd hs hk => ?_
    exact ⟨hm2, hQ _ _ _ _ _ hs hk⟩
  | cons g gs draw_ih =>
    intro is listed us E H n a w hdown h hm hv
    unfold chkDraw at hm
    by_cases hend : g.o.isEnd = true
    · rw [if_pos hend] at hm
      have hend := VOp.isEnd_spec hend
      simp only [Bool.and_eq_true, Option.isNone_iff_eq_none] at hm
      obtain ⟨⟨hg, hU⟩, hrest⟩ := hm
      refine urun (g :: gs) is.length us.length us listed rfl hdown h (chkU_spec hU) hv fun {E H n a w} hd hs hk => ?_
      have hk' : vops (laws P w0.heap.size nt) gs K E H w.heap.size := by
        have : va (laws P w0.heap.size nt) E H n g.o fun E H n => vops (laws P w0.heap.size nt) gs K E H n := by simpa [vops, vgop, hg] using hk
        rw [hend] at this
        exact this _ hs.nle fun q k hq => (hs.blk q k hq).lt
      have := draw_ih is (setAll listed us) [] hd hs.raise hrest hk'
      simpa using this
    rw [if_neg hend] at hm
    have hm' := hm
    clear hm
    cases is with
    | nil => cases hm'
    | cons i is =>
    dsimp only at hm'
    by_cases hcol : (g.o.isU && g.g.isNone) = true
    · rw [if_pos hcol] at hm'
      have := draw_ih is listed (us ++ [(i, g)]) hdown h hm' (by simpa using hv)
      rw [List.length_append, List.length_singleton, Nat.add_assoc, Nat.add_comm 1] at this
      exact this
    rw [if_neg hcol] at hm'
    simp only [Bool.and_eq_true, beq_iff_eq] at hm'
    obtain ⟨⟨⟨⟨hU, hmg⟩, hlate⟩, hmo⟩, hrest⟩ := hm'
    refine urun (g :: gs) (is.length + 1) us.length us listed rfl hdown h (chkU_spec hU) hv fun {E H n a w} hdown h hv => ?_
    generalize setAll listed us = listed at *
    have ih := fun (hd : Down ops (listed.setIfInBounds i true)) (E : Env) (H : Hp) (n : Nat) (a : Act) (w : World) => draw_ih is (listed.setIfInBounds i true) [] (E := E) (H := H) (n := n) (a := a) (w := w) hd
    simp only [List.map_nil, List.nil_append, List.length_nil, Nat.zero_add] at ih
    by_cases hq : g.o.quiet = true
    · rw [if_pos hq] at hmo
      simp only [Bool.and_eq_true] at hmo
      obtain ⟨hready, hfree⟩ := hmo
      have hready' : i ∈ Region.ready .any ops listed := by simpa using hready
      have hgr : g.o.grows = true := by
        cases hgo : g.o <;> first | rfl | (rw [hgo] at hq; simp [VOp.quiet] at hq)
      rw [hgr] at hlate
      obtain ⟨_, oi, hoi, _⟩ := mem_ready.1 hready'
      have key : ∃ v, YieldsIf P ops (fun w' => g.o.mem = true → Below w.heap.size w w') oi v a ∧ wpAnyB P ops late Q is.length (listed.setIfInBounds i true) (a.put oi.dst v) w := by
        have hmg' := hmg
        unfold mG at hmg'
        rw [hoi] at hmg'
        simp only [Bool.and_eq_true] at hmg'
        obtain ⟨hmo', hgd⟩ := hmg'
        have run : Region.wanted oi (yielded ops a.tmps) = true → va (laws P w0.heap.size nt) E H n g.o (fun E' H' n' => vops (laws P w0.heap.size nt) gs K E' H' n') → ∃ v, YieldsIf P ops (fun w' => g.o.mem = true → Below w.heap.size w w') oi v a ∧ wpAnyB P ops late Q is.length (listed.setIfInBounds i true) (a.put oi.dst v) w := fun hw hva => by
          obtain ⟨d, x, u, hd, _, hK, hu, hrun⟩ := vq_sound (K := fun d v => vops (laws P w0.heap.size nt) gs K (upd E d v) H n) h.blk h.rel hmo' (va_quiet hq hva)
          refine ⟨u, .inl ⟨hw, fun w' hb => hrun w' hb⟩, ?_⟩
          rw [hd]
          exact ih (hdown.set hready') _ _ _ _ _ (h.put hu) hrest hK
        unfold vops vgop at hv
        cases hg : oi.guard with
        | none =>
          rw [hg] at hgd
          cases hgg : g.g with
          | none => rw [hgg] at hv; exact run (by simp [Region.wanted, hg]) hv
          | some p => rw [hgg] at hgd; cases hgd
        | some jw =>
          obtain ⟨j, want⟩ := jw
          rw [hg] at hgd
          cases hgg : g.g with
          | none => rw [hgg] at hgd; cases hgd
          | some p =>
            obtain ⟨t, want'⟩ := p
            rw [hgg] at hgd
            simp only [Bool.and_eq_true, beq_iff_eq] at hgd
            obtain ⟨hjt, rfl⟩ := hgd
            split at hjt <;> first | (cases hjt; done) | skip
            rename_i t' ht'
            simp only [Bool.and_eq_true, beq_iff_eq, decide_eq_true_eq] at hjt
            obtain ⟨rfl, htn⟩ := hjt
            have skip : Region.wanted oi (yielded ops a.tmps) = false → (match g.o.dst with | some d => vops (laws P w0.heap.size nt) gs K (upd E d (.tup [])) H n | none => vops (laws P w0.heap.size nt) gs K E H n) →
                ∃ v, YieldsIf P ops (fun w' => g.o.mem = true → Below w.heap.size w w') oi v a ∧ wpAnyB P ops late Q is.length (listed.setIfInBounds i true) (a.put oi.dst v) w := fun hw hv => by
              obtain ⟨d, hd⟩ : ∃ d, g.o.dst = some d := by
                cases hgo : g.o <;> first | exact ⟨_, rfl⟩ | (rw [hgo] at hq; simp [VOp.quiet] at hq)
              rw [hd] at hv
              obtain ⟨hod, _⟩ := mOp_dst hmo' hd
              refine ⟨undef, .inr ⟨hw, rfl⟩, ?_⟩
              rw [hod]
              exact ih (hdown.set hready') _ _ _ _ _ (h.put (x := .tup []) (u := undef) ⟨#[], rfl, rfl, by simp⟩) hrest hv
            rw [hgg] at hv
            dsimp only at hv
            split at hv
            · rename_i b hb
              have hy := h.yield htn hb ht'
              have hw : Region.wanted oi (yielded ops a.tmps) = (b == want) := by
                simp [Region.wanted, hg, hy]
              by_cases hbw : b = want
              · subst hbw
                rw [if_pos rfl] at hv
                exact run (by rw [hw]; simp) hv
              · rw [if_neg hbw] at hv
                exact skip (by rw [hw]; simpa using hbw) hv
            · rename_i hb
              have hy := h.yield0 htn hb ht'
              exact skip (by simp [Region.wanted, hg, hy]) hv
            · exact hv.elim
      obtain ⟨v, hy, hw⟩ := key
      exact wpAnyB_first hoi (Region.noSelect_spec hsel) hQp hlate w is.length listed a w hdown (freeB_spec hoi hfree) hready' (fun _ => Below.refl _ _) hy hw
    · rw [if_neg hq] at hmo
      have hr : Region.ready .any ops listed = [i] := by simpa using hmo
      refine ⟨fun h0 => (by rw [hr] at h0; cases h0), fun j hj => ?_⟩
      rw [hr] at hj
      obtain rfl := List.mem_singleton.1 hj
      exact vgop_sound h hmg hv fun E' H' n' a' w' h1 h2 h3 => ⟨fun hl => h3 (by rw [hlate] at hl; simpa using hl), ih (hdown.set (by rw [hr]; exact List.mem_singleton.2 rfl)) _ _ _ _ _ h1 hrest h2⟩
end
end Go.AVM
