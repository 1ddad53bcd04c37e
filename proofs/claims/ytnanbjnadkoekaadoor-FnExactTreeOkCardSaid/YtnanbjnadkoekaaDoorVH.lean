/- A function's text: what the abstract machine says of it holds of a call. -/
import Derived.Test.YtnanbjnadkoekaaDoorVG
import Derived.LoopN
namespace Go.AVM
set_option linter.unusedSimpArgs false
open Go.RowKit
set_option linter.unusedVariables false

/-- which operations write what was there -/
def lateA : Nat → List Nat → List GOp → Array Bool
  | n, i :: is, g :: gs => (lateA n is gs).setIfInBounds i (!g.o.grows)
  | n, _, _ => Array.replicate n false

def chkC (P : Program) (nt : Nat) : Code → VC → Bool
  | .skip, .skip => true
  | .region _ ops draw, .reg gs ord => if draw then P.follows .mixedOrders && Region.noSelect ops && ord.length == ops.size && chkDraw P nt ops (lateA ops.size ord (gs.filter fun g => !g.o.isEnd)) (Array.replicate ops.size false) [] ord gs
      else ord == List.range ops.size && mGs P nt ops ord gs
  | .seq a b, .seq c d => chkC P nt a c && chkC P nt b d
  | .cond c a b, .cond c' a' b' => mOpd nt c c' && chkC P nt a a' && chkC P nt b b'
  | .block i c, .block j d => i == j && chkC P nt c d
  | .loop c, .loop d => chkC P nt c d
  | .exit i, .exit j => i == j
  | .ret, .ret => true
  | c, .ghost d => chkC P nt c d
  | _, .stuck => true
  | _, _ => false

def PostC (w0 : World) (S : Sg) (nt : Nat) (Q : Post) : Exit → Act → World → Prop
  | .normal, a, w => ∃ E H n, SR w0 S nt E H n a w ∧ Q .normal E H n
  | .exit id, a, w => ∃ E H n, SR w0 S nt E H n a w ∧ Q (.exit id) E H n
  | .ret, a, w => ∃ E H n, SR w0 S nt E H n a w ∧ Q .ret E H n
  | _, _, _ => False

section
variable {P : Program} {w0 : World} {S : Sg} {nt : Nat}

theorem wp_conv {c : Code} {Q Q' : Exit → Act → World → Prop} {a : Act} {w : World} (h : c.wp P Q a w) (hq : ∀ e a w, Q e a w → Q' e a w) : c.wp P Q' a w := wp_mono h hq

theorem vwp_sound : ∀ (c : Code) (vc : VC) (Q : Post) {E : Env} {H : Hp} {n : Nat} {a : Act} {w : World}, chkC P nt c vc = true → SR w0 S nt E H n a w → vwp (laws P w0.heap.size nt) vc Q E H n → c.wp P (PostC w0 S nt Q) a w := by
  intro c vc
  induction vc generalizing c with
  | stuck =>
    intro Q E H n a w hc h hv
    exact hv.elim
  | skip =>
    intro Q E H n a w hc h hv
    cases c <;> first | (simp [chkC] at hc; done) | skip
    exact wp_skip ⟨E, H, n, h, hv⟩
  | reg gs ord =>
    intro Q E H n a w hc h hv
    cases c <;> first | (simp [chkC] at hc; done) | skip
    rename_i id ops draw
    have hQ : ∀ E' H' n' a' w', SR w0 S nt E' H' n' a' w' → Q .normal E' H' n' → PostC w0 S nt Q .normal a' w' := fun E' H' n' a' w' h1 h2 => ⟨E', H', n', h1, h2⟩
    cases draw with
    | false =>
      simp only [chkC, Bool.false_eq_true, if_false, Bool.and_eq_true, beq_iff_eq] at hc
      obtain ⟨rfl, hm⟩ := hc
      exact wp_region (vops_sound hQ _ gs h hm hv)
    | true =>
      simp only [chkC, if_true, Bool.and_eq_true, beq_iff_eq] at hc
      obtain ⟨⟨⟨hmo, hsel⟩, hl⟩, hm⟩ := hc
      refine wp_region_any hmo ?_
      rw [← hl]
      refine wpAny_of_B (late := lateA ops.size ord (gs.filter fun g => !g.o.isEnd)) _ _ _ _ ?_
      have := draw_sound (late := lateA ops.size ord (gs.filter fun g => !g.o.isEnd)) hQ (fun _ _ _ h => h) hsel gs ord (Array.replicate ord.length false) [] (Down.none _) (h.quiet_world (w' := w.drew) ⟨rfl, rfl, rfl, Nat.le_refl _, fun _ _ => rfl⟩) (by rw [hl]; exact hm) hv
      simpa using this
  | seq x' y' ihx ihy =>
    intro Q E H n a w hc h hv
    cases c <;> first | (simp [chkC] at hc; done) | skip
    rename_i x y
    simp only [chkC, Bool.and_eq_true] at hc
    refine wp_seq (wp_conv (ihx x _ hc.1 h hv) ?_)
    intro e a' w' hq
    cases e <;> first | (exact hq.elim) | skip
    · obtain ⟨E', H', n', h', hv'⟩ := hq
      exact ihy y Q hc.2 h' hv'
    · exact hq
    · exact hq
  | cond o' x' y' ihx ihy =>
    intro Q E H n a w hc h hv
    cases c <;> first | (simp [chkC] at hc; done) | skip
    rename_i o x y
    simp only [chkC, Bool.and_eq_true] at hc
    obtain ⟨t, ht, hv⟩ := hv
    have hr := h.rel.ev hc.1.1
    rw [ht] at hr
    refine wp_cond hr.bool_inv ?_
    cases t with
    | true => exact ihx x Q hc.1.2 h hv
    | false => exact ihy y Q hc.2 h hv
  | block id' x' ih =>
    intro Q E H n a w hc h hv
    cases c <;> first | (simp [chkC] at hc; done) | skip
    rename_i id x
    simp only [chkC, Bool.and_eq_true, beq_iff_eq] at hc
    obtain ⟨rfl, hc⟩ := hc
    refine wp_block (wp_conv (ih x _ hc h hv) ?_)
    intro e a' w' hq
    cases e <;> first | (exact hq.elim) | skip
    · exact hq
    · obtain ⟨E', H', n', h', hv'⟩ := hq
      simp only [Exit.inBlock]
      simp only [Post.inBlock] at hv'
      split
      · rename_i e; rw [if_pos e] at hv'; exact ⟨E', H', n', h', hv'⟩
      · rename_i e; rw [if_neg e] at hv'; exact ⟨E', H', n', h', hv'⟩
    · exact hq
  | loop x' ih =>
    intro Q E H n a w hc h hv
    cases c <;> first | (simp [chkC] at hc; done) | skip
    rename_i x
    simp only [chkC] at hc
    obtain ⟨k, hk⟩ := hv
    refine wp_loop_rounds k ?_
    have key : ∀ k E H n a w, SR w0 S nt E H n a w → rounds (vwp (laws P w0.heap.size nt) x') Q k E H n → Code.rounds P x (PostC w0 S nt Q) k a w := by
      intro k
      induction k with
      | zero => intro E H n a w _ hk; exact hk.elim
      | succ k ihk =>
        intro E H n a w h hk
        rw [rounds_succ]
        refine wp_conv (ih x _ hc h hk) ?_
        intro e a' w' hq
        cases e <;> first | (exact hq.elim) | skip
        · obtain ⟨E', H', n', h', hv'⟩ := hq
          exact ihk E' H' n' a' w' h' hv'
        · exact hq
        · exact hq
    exact key k E H n a w h hk
  | exit id' =>
    intro Q E H n a w hc h hv
    cases c <;> first | (simp [chkC] at hc; done) | skip
    rename_i id
    obtain rfl : id = id' := by simpa [chkC] using hc
    exact wp_exit ⟨E, H, n, h, hv⟩
  | ret =>
    intro Q E H n a w hc h hv
    cases c <;> first | (simp [chkC] at hc; done) | skip
    exact wp_ret ⟨E, H, n, h, hv⟩
  | ghost x ih =>
    intro Q E H n a w hc h hv
    obtain ⟨E', H', hg, hv⟩ := hv
    have hc' : chkC P nt c x = true := by cases c <;> simpa [chkC] using hc
    exact ih c Q hc' (hg w0 S a w rfl h) hv

def resOk (P : Program) (nt : Nat) : List ResultVar → List RVr → Bool
  | [], [] => true
  | .tmp t :: rs, .tmp t' :: vs => t == t' && decide (t < nt) && resOk P nt rs vs
  | .cell t ty :: rs, .cell t' sz :: vs => t == t' && decide (t < nt) && szOk P ty sz && resOk P nt rs vs
  | _, _ => false

def chkFn (P : Program) (f : FuncId) (vf : VFn) : Bool :=
  match P.funcs[f]? with
  | none => false
  | some fn => fn.ntmps == vf.nt && decide (vf.np ≤ vf.nt) && !(fn.name == "runtime.NumGoroutine") && resOk P vf.nt fn.results.toList vf.res && match fn.body with | some c => chkC P vf.nt c vf.body | none => false

def resF (tmps : Array Value) : ResultVar → Sem Value
  | .tmp t => pure (tmps.getD t undef)
  | .cell a t => do loadVar t (← asAddr (tmps.getD a undef))
theorem results_eq (fn : Func) (tmps : Array Value) : results fn tmps = (do let vs ← fn.results.mapM (resF tmps); pure (if h : vs.size = 1 then vs[0] else .tuple vs)) := by
  unfold results
  have : (fun (x : ResultVar) => (match x with | .tmp t => pure (tmps.getD t undef) | .cell a t => do loadVar t (← asAddr (tmps.getD a undef)) : Sem Value)) = resF tmps := by
    funext r
    cases r <;> rfl
  rw [← this]
  rfl

theorem results_ok : ∀ (rs : List ResultVar) (vs : List RVr) {E : Env} {H : Hp} {n : Nat} {a : Act} {w : World} {K : List AV → Prop}, SR w0 S nt E H n a w → resOk P nt rs vs = true → getR E H vs K →
    ∃ (us : List Value) (xs : List AV), K xs ∧ us.length = xs.length ∧ (∀ (i : Nat) (x : AV) (u : Value), xs[i]? = some x → us[i]? = some u → RV w (Stb w0 S H w) x u) ∧
      (rs.mapM (resF a.tmps)).run P w = .ok us w
  | [], [], E, H, n, a, w, K, h, _, hk => ⟨[], [], hk, rfl, by simp, by simp⟩
  | .tmp t :: rs, .tmp t' :: vs, E, H, n, a, w, K, h, hm, hk => by
    simp only [resOk, Bool.and_eq_true, beq_iff_eq, decide_eq_true_eq] at hm
    obtain ⟨⟨rfl, ht⟩, hm⟩ := hm
    obtain ⟨us, xs, hK, hl, hr, hrun⟩ := results_ok rs vs h hm hk
    refine ⟨a.tmps.getD t undef :: us, E t :: xs, hK, by simp [hl], fun i x u hx hu => ?_, ?_⟩
    · cases i with
      | zero =>
        obtain rfl : E t = x := by simpa using hx
        obtain rfl : a.tmps.getD t undef = u := by simpa using hu
        exact h.tm t ht
      | succ i => exact hr i x u (by simpa using hx) (by simpa using hu)
    · simp only [List.mapM_cons, resF, Sem.run_bind, Sem.run_pure, Result.andThen_ok, hrun]
  | .cell t ty :: rs, .cell t' sz :: vs, E, H, n, a, w, K, h, hm, hk => by
    simp only [resOk, Bool.and_eq_true, beq_iff_eq, decide_eq_true_eq] at hm
    obtain ⟨⟨⟨rfl, ht⟩, hsz⟩, hm⟩ := hm
    -- the load, as the operation's law has it
    have hq : vq E H (.ld 0 (.t t) sz) (fun _ v => getR E H vs fun vs' => K (v :: vs')) := hk
    have hnt : 0 < nt := Nat.lt_of_le_of_lt (Nat.zero_le _) ht
    obtain ⟨d, x, u, _, _, hK', hu, hrun⟩ := vq_sound (P := P) (o := { dst := some 0, op := .load ty (.tmp t), type := ty, pos := "", after := #[], guard := none }) h.blk h.rel (by simp [mOp, VOp.dst, mOp2, VOp.base, mOp1, hsz, mOpd, ht, hnt]) hq
    have hrun0 := hrun w (fun _ => Below.refl _ _)
    obtain ⟨us, xs, hK, hl, hr, hrun'⟩ := results_ok rs vs h hm hK'
    have hload : (Instr.loadAt ty (a.tmps.getD t undef)).run P w = .ok u w := by
      have h0 : ((Instr.loadAt ty (a.tmps.getD t undef)).run P w).andThen (fun v w' => .ok (Next.value v) w') = .ok (.value u) w := by
        rw [← hrun0]
        simp [execOp, Act.eval]
      cases hl : (Instr.loadAt ty (a.tmps.getD t undef)).run P w with
      | ok v w1 => rw [hl] at h0; simpa using h0
      | halt x w1 => rw [hl] at h0; cases h0
    refine ⟨u :: us, x :: xs, hK, by simp [hl], fun i y v hx hv => ?_, ?_⟩
    · cases i with
      | zero =>
        obtain rfl : x = y := by simpa using hx
        obtain rfl : u = v := by simpa using hv
        exact hu
      | succ i => exact hr i y v (by simpa using hx) (by simpa using hv)
    · have hl2 : (resF a.tmps (.cell t ty)).run P w = .ok u w := by
        rw [← hload]
        show (do let x ← asAddr (a.tmps.getD t undef); loadVar ty x : Sem Value).run P w = (do let x ← Instr.sureAddr (a.tmps.getD t undef); loadVar ty x : Sem Value).run P w
        cases hv : a.tmps.getD t undef with
        | pointer ad => cases ad <;> first | rfl | (rw [hv] at hload; simp [Instr.loadAt, Instr.sureAddr] at hload)
        | _ => rw [hv] at hload; simp [Instr.loadAt, Instr.sureAddr] at hload
      simp only [List.mapM_cons, Sem.run_bind, hl2, Result.andThen_ok, hrun']
      simp
  | [], v :: vs, _, _, _, _, _, _, _, hm, _ => by simp [resOk] at hm
  | .tmp _ :: _, [], _, _, _, _, _, _, _, hm, _ => by simp [resOk] at hm
  | .cell _ _ :: _, [], _, _, _, _, _, _, _, hm, _ => by simp [resOk] at hm
  | .tmp _ :: _, .cell _ _ :: _, _, _, _, _, _, _, _, hm, _ => by simp [resOk] at hm
  | .cell _ _ :: _, .tmp _ :: _, _, _, _, _, _, _, _, hm, _ => by simp [resOk] at hm

theorem RV.to0 {w : World} {T : Nat → Prop} {x : AV} {v : Value} (h : RV w T x v) (ht : ∀ vs, x ≠ .tup vs) : RV0 w T x v := by
  cases x <;> first | exact h | exact absurd rfl (ht _)

theorem chkFn_spec {f : FuncId} {vf : VFn} (hc : chkFn P f vf = true) : ∃ fn c, P.funcs[f]? = some fn ∧ fn.body = some c ∧ (fn.name == "runtime.NumGoroutine") = false ∧ fn.ntmps = vf.nt ∧ vf.np ≤ vf.nt ∧ resOk P vf.nt fn.results.toList vf.res = true ∧ chkC P vf.nt c vf.body = true := by
  unfold chkFn at hc
  cases hfn : P.funcs[f]? with
  | none => rw [hfn] at hc; cases hc
  | some fn =>
    rw [hfn] at hc
    simp only [Bool.and_eq_true, beq_iff_eq, decide_eq_true_eq, Bool.not_eq_true'] at hc
    obtain ⟨⟨⟨⟨hnt, hnp⟩, hname⟩, hres⟩, hbody⟩ := hc
    cases hb : fn.body with
    | none => rw [hb] at hbody; cases hbody
    | some c =>
      rw [hb] at hbody
      exact ⟨fn, c, rfl, hb, hname, hnt, hnp, hres, hbody⟩

theorem init_sr {w : World} {S : Sg} {args : List AV} {vs : Array Value} {H0 : Hp} {nt m : Nat} (hm : m = nt) (hle : vs.size ≤ nt) (hl : vs.size = args.length) (hvs : ∀ (i : Nat) (x : AV), args[i]? = some x → ∃ u, vs[i]? = some u ∧ RV w (Stb w S H0 w) x u)
    (hb : ∀ d k, H0 d = some k → BOK w (Stb w S H0 w) (Mine w S) k) (hi : ∀ d d' k k', H0 d = some k → H0 d' = some k' → k.b = k'.b → d = d') :
    SR w S nt (ini args) H0 w.heap.size { tmps := vs ++ Array.replicate (m - vs.size) undef, defers := [] } w := by
  refine ⟨rfl, by simp; omega, Bel.refl _ _, Nat.le_refl _, Nat.le_refl _, fun t ht => ?_, hb, hi⟩
  unfold ini
  rcases Nat.lt_or_ge t args.length with hlt | hge
  · obtain ⟨u, hu, hr⟩ := hvs t args[t] (List.getElem?_eq_getElem hlt)
    have hlt' : t < vs.size := by rw [hl]; exact hlt
    have : (vs ++ Array.replicate (m - vs.size) undef).getD t undef = u := by
      rw [Array.getD_eq_getD_getElem?, Array.getElem?_append_left hlt', hu]
      rfl
    rw [this, List.getD_eq_getElem?_getD, List.getElem?_eq_getElem hlt]
    exact hr
  · rw [List.getD_eq_getElem?_getD, List.getElem?_eq_none hge]
    trivial

theorem end_run {fn : Func} {a : Act} {w : World} {us : List Value} (hrun : (fn.results.toList.mapM (resF a.tmps)).run P w = .ok us w) :
    (results fn a.tmps).run P w = .ok (if h : us.toArray.size = 1 then us.toArray[0] else .tuple us.toArray) w := by
  rw [results_eq, Sem.run_bind, Array.mapM_eq_mapM_toList, Sem.run_map, hrun]
  rfl
theorem end_rv {w : World} {T : Nat → Prop} {us : List Value} {ys : List AV} (hyl : ys.length = us.length) (hyr : ∀ (i : Nat) (x : AV) (v : Value), ys[i]? = some x → us[i]? = some v → RV w T x v ∧ ∀ vs, x ≠ .tup vs) :
    RV w T (mkR ys) (if h : us.toArray.size = 1 then us.toArray[0] else .tuple us.toArray) := by
  by_cases h1 : us.length = 1
  · obtain ⟨u, rfl⟩ := List.length_eq_one_iff.1 h1
    obtain ⟨y, rfl⟩ := List.length_eq_one_iff.1 (hyl.trans h1)
    exact (hyr 0 y u rfl rfl).1
  · rw [dif_neg (by simpa using h1)]
    have : mkR ys = .tup ys := by
      rcases ys with _ | ⟨y, _ | ⟨y2, ys⟩⟩
      · rfl
      · exact absurd hyl.symm h1
      · rfl
    rw [this]
    refine ⟨us.toArray, rfl, by simp [hyl], fun i x hi => ?_⟩
    have hlt : i < us.length := by rw [← hyl]; exact (List.getElem?_eq_some_iff.1 hi).1
    obtain ⟨g1, g2⟩ := hyr i x us[i] hi (List.getElem?_eq_getElem hlt)
    exact ⟨us[i], by simp [hlt], g1.to0 g2⟩

/-- What the abstract machine says of a function's text holds of every call; the arguments' values may be told otherwise than the law has them. -/
theorem fn_okE {f : FuncId} {vf : VFn} {args : List AV} {R : Nat → Nat → AV → Prop} {args' : Nat → List AV} (hc : chkFn P f vf = true) (hn : args.length = vf.np)
    (ha : ∀ (w : World) (S : Nat → Prop) (vs : Array Value), (∀ b, S b → b < w.heap.size) → RVs w S args vs → RVs w S (args' w.heap.size) vs)
    (h : ∀ lo, vwp ⟨OK P, OKM P, GH lo vf.nt⟩ vf.body (fnPost vf.res lo R) (ini (args' lo)) (fun _ => none) lo) : OK P f args R := by
  obtain ⟨fn, c, hfn, hb, hname, hnt, hnp, hres, hbody⟩ := chkFn_spec hc
  refine .inl ⟨⟨fn, hfn, by rw [hb]; rfl, hname⟩, fun w S vs hS hvs => ?_⟩
  have hsz : vs.size = vf.np := by rw [hvs.1, hn]
  obtain ⟨hl', hr'⟩ := ha w S vs hS hvs
  have hsr : SR w ⟨S, fun _ => False⟩ vf.nt (ini (args' w.heap.size)) (fun _ => none) w.heap.size { tmps := vs ++ Array.replicate (fn.ntmps - vs.size) undef, defers := [] } w := by
    refine init_sr hnt (by omega) hl' (fun i x hi => ?_) (fun d k hk => by cases hk) (fun d d' k k' hk => by cases hk)
    obtain ⟨u, hu, hr⟩ := hr' i x hi
    exact ⟨u, hu, hr.mono (on_same fun g hg => ⟨.inl hg, hS g hg, fun d k hk => (by cases hk)⟩)⟩
  have hwp := vwp_sound (P := P) c vf.body _ hbody hsr (h w.heap.size)
  have fin : ∀ (E : Env) (H : Hp) (n : Nat) (a : Act) (w' : World), SR w ⟨S, fun _ => False⟩ vf.nt E H n a w' → (getR E H vf.res fun vs => solE H vs fun vs' _ => R w.heap.size n (mkR vs')) →
      a.defers = [] ∧ ∃ v, (results fn a.tmps).run P w' = .ok v w' ∧ ∃ v' r hi, Ending.returned v = .returned v' ∧ w.heap.size ≤ hi ∧ hi ≤ w'.heap.size ∧ R w.heap.size hi r ∧ RV w' (fun b => S b ∨ (w.heap.size ≤ b ∧ b < w'.heap.size)) r v' ∧ Below w.heap.size w w' := by
    intro E H n a w' hs hg
    obtain ⟨us, xs, hK, hl, hr, hrun⟩ := results_ok _ _ hs hres hg
    obtain ⟨ys, H', hR, hs', _, hyl, hyr⟩ := solE_ok xs us hs hl.symm (fun i x v hx hv => hr i x v hx hv) hK
    have hon : On w' w' (Stb w ⟨S, fun _ => False⟩ H' w') (fun b => S b ∨ (w.heap.size ≤ b ∧ b < w'.heap.size)) := on_same fun g hg => hg.1.imp id fun h' => ⟨h'.resolve_left id, hg.2.1⟩
    refine ⟨hs.defs, _, end_run hrun, _, mkR ys, n, rfl, hs.nge, hs.nle, hR, (end_rv hyl fun i x v h1 h2 => ?_).mono hon, hs.bel.below⟩
    obtain ⟨g1, g2, _⟩ := hyr i x v h1 h2
    exact ⟨g1, g2⟩
  refine calls_of_wp hfn hb (wp_conv hwp fun e a w' hq => ?_)
  cases e <;> first | (exact hq.elim) | skip
  · obtain ⟨E, H, n, hs, hg⟩ := hq
    exact fin E H n a w' hs hg
  · obtain ⟨_, _, _, _, hg⟩ := hq
    exact hg.elim
  · obtain ⟨E, H, n, hs, hg⟩ := hq
    exact fin E H n a w' hs hg

/-- what is told of a function that has a body -/
theorem OK.body {f : FuncId} {vf : VFn} {args : List AV} {R : Nat → Nat → AV → Prop} (hc : chkFn P f vf = true) (h : OK P f args R) : OKb P f args R := by
  obtain ⟨fn, c, hfn, hb, hname, _⟩ := chkFn_spec hc
  refine ⟨⟨fn, hfn, by rw [hb]; rfl, hname⟩, fun w S vs hS hvs => ?_⟩
  rcases h with h | h
  · exact h.2 w S vs hS hvs
  · obtain ⟨v, r, hr, _⟩ := h w S vs hS hvs
    have hnm : ¬ (fn.name = "runtime.NumGoroutine") := by simpa using hname
    simp [callFunc, hfn, hnm, hb] at hr
theorem fn_ok {f : FuncId} {vf : VFn} {args : List AV} {R : Nat → Nat → AV → Prop} (hc : chkFn P f vf = true) (hn : args.length = vf.np) (h : ∀ lo, vwp ⟨OK P, OKM P, GH lo vf.nt⟩ vf.body (fnPost vf.res lo R) (ini args) (fun _ => none) lo) : OK P f args R :=
  fn_okE (args' := fun _ => args) hc hn (fun _ _ _ _ h => h) h

theorem older_rv {w : World} {S : Nat → Prop} {x : AV} {v : Value} (hS : ∀ b, S b → b < w.heap.size) (h : RV w S x v) : RV w S (x.older w.heap.size) v := by
  have hon : On w w S (fun g => S g ∧ g < w.heap.size) := on_same fun g hg => ⟨hg, hS g hg⟩
  cases x <;> first | exact h | exact RC.mono hon h | skip
  obtain ⟨cs, e, h⟩ := h
  exact ⟨cs, e, h.mono hon⟩
/-- The same, the arguments marked as what was there before. -/
theorem fn_okO {f : FuncId} {vf : VFn} {args : List AV} {R : Nat → Nat → AV → Prop} (hc : chkFn P f vf = true) (hn : args.length = vf.np)
    (h : ∀ lo, vwp ⟨OK P, OKM P, GH lo vf.nt⟩ vf.body (fnPost vf.res lo R) (ini (args.map (AV.older lo))) (fun _ => none) lo) : OK P f args R :=
  fn_okE (args' := fun lo => args.map (AV.older lo)) hc hn (fun w S vs hS hvs => ⟨by simpa using hvs.1, fun i x hi => by
    rw [List.getElem?_map] at hi
    obtain ⟨y, hy, rfl⟩ := Option.map_eq_some_iff.1 hi
    obtain ⟨u, hu, hr⟩ := hvs.2 i y hy
    exact ⟨u, hu, older_rv hS hr⟩⟩) h

/-- The same of a function that is handed rows to write. -/
theorem fn_okM {f : FuncId} {vf : VFn} {args : List AV} {H0 : Hp} {R : Nat → Nat → AV → Hp → Prop} (hc : chkFn P f vf = true) (hn : args.length = vf.np) (h : ∀ lo, (∀ d k, H0 d = some k → k.b < lo) → vwp ⟨OK P, OKM P, GH lo vf.nt⟩ vf.body (fnPostM vf.res lo R) (ini args) H0 lo) : OKM P f args H0 R := by
  obtain ⟨fn, c, hfn, hb, hname, hnt, hnp, hres, hbody⟩ := chkFn_spec hc
  refine ⟨⟨fn, hfn, by rw [hb]; rfl, hname⟩, fun w S vs hS hvs hbk hin => ?_⟩
  have hsz : vs.size = vf.np := by rw [hvs.1, hn]
  have hSS : ∀ g, S g → Stb w ⟨S, gvn H0⟩ H0 w g := fun g hg => ⟨.inl hg, hS g hg, fun d k hk hf he => by
    obtain ⟨_, g1, _⟩ := hbk d k hk
    exact g1 (he ▸ hg)⟩
  have hsr : SR w ⟨S, gvn H0⟩ vf.nt (ini args) H0 w.heap.size { tmps := vs ++ Array.replicate (fn.ntmps - vs.size) undef, defers := [] } w := by
    refine init_sr hnt (by omega) hvs.1 (fun i x hi => ?_) (fun d k hk => ?_) hin
    · obtain ⟨u, hu, hr⟩ := hvs.2 i x hi
      exact ⟨u, hu, hr.mono (on_same hSS)⟩
    · obtain ⟨g1, g2, g3⟩ := ((hbk d k hk).2.mono (on_same hSS) rfl)
      exact ⟨.inl ⟨d, k, hk, rfl⟩, g2, g3⟩
  have hwp := vwp_sound (P := P) c vf.body _ hbody hsr (h w.heap.size fun d k hk => (hbk d k hk).2.lt)
  have fin : ∀ (E : Env) (H : Hp) (n : Nat) (a : Act) (w' : World), SR w ⟨S, gvn H0⟩ vf.nt E H n a w' → (getR E H vf.res fun vs => (∀ v ∈ vs, ∀ us, v ≠ .tup us) ∧ R w.heap.size n (mkR vs) H) →
      a.defers = [] ∧ ∃ v, (results fn a.tmps).run P w' = .ok v w' ∧ ∃ v' r hi H', Ending.returned v = .returned v' ∧ w.heap.size ≤ hi ∧ hi ≤ w'.heap.size ∧ R w.heap.size hi r H' ∧ RV w' (Stb w ⟨S, gvn H0⟩ H' w') r v' ∧
        (∀ d k, H' d = some k → BOK w' (Stb w ⟨S, gvn H0⟩ H' w') (Mine w ⟨S, gvn H0⟩) k) ∧ (∀ d d' k k', H' d = some k → H' d' = some k' → k.b = k'.b → d = d') ∧ Bel w ⟨S, gvn H0⟩ w' := by
    intro E H n a w' hs hg
    obtain ⟨us, xs, ⟨hnt, hR⟩, hl, hr, hrun⟩ := results_ok _ _ hs hres hg
    exact ⟨hs.defs, _, end_run hrun, _, mkR xs, n, H, rfl, hs.nge, hs.nle, hR, end_rv hl.symm (fun i x v h1 h2 => ⟨hr i x v h1 h2, hnt x (List.mem_of_getElem? h1)⟩), hs.blk, hs.inj, hs.bel⟩
  refine calls_of_wp hfn hb (wp_conv hwp fun e a w' hq => ?_)
  cases e <;> first | (exact hq.elim) | skip
  · obtain ⟨E, H, n, hs, hg⟩ := hq
    exact fin E H n a w' hs hg
  · obtain ⟨_, _, _, _, hg⟩ := hq
    exact hg.elim
  · obtain ⟨E, H, n, hs, hg⟩ := hq
    exact fin E H n a w' hs hg
end
end Go.AVM
