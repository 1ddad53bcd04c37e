/- A function's text: what the abstract machine says of it holds of a call. -/
import Derived.Test.YtjbniljmgnmdnaaVG
import Derived.LoopN
namespace Go.AVM
open Go.RowKit
set_option linter.unusedVariables false

/-- which operations write what was there -/
def lateA : Nat → List Nat → List GOp → Array Bool
  | n, i :: is, g :: gs => (lateA n is gs).setIfInBounds i (!g.o.grows)
  | n, _, _ => Array.replicate n false

def chkC (P : Program) (nt : Nat) : Code → VC → Bool
  | .skip, .skip => true
  | .region _ ops draw, .reg gs ord => if draw then P.follows .mixedOrders && Region.noSelect ops && ord.length == ops.size && chkDraw P nt ops (lateA ops.size ord gs) (Array.replicate ops.size false) ord gs
      else ord == List.range ops.size && mGs P nt ops ord gs
  | .seq a b, .seq c d => chkC P nt a c && chkC P nt b d
  | .cond c a b, .cond c' a' b' => mOpd nt c c' && chkC P nt a a' && chkC P nt b b'
  | .block i c, .block j d => i == j && chkC P nt c d
  | .loop c, .loop d => chkC P nt c d
  | .exit i, .exit j => i == j
  | .ret, .ret => true
  | _, _ => false

def PostC (w0 : World) (S : Nat → Prop) (nt : Nat) (Q : Post) : Exit → Act → World → Prop
  | .normal, a, w => ∃ E H n, SR w0 S nt E H n a w ∧ Q .normal E H n
  | .exit id, a, w => ∃ E H n, SR w0 S nt E H n a w ∧ Q (.exit id) E H n
  | .ret, a, w => ∃ E H n, SR w0 S nt E H n a w ∧ Q .ret E H n
  | _, _, _ => False

section
variable {P : Program} {w0 : World} {S : Nat → Prop} {nt : Nat}

theorem wp_conv {c : Code} {Q Q' : Exit → Act → World → Prop} {a : Act} {w : World} (h : c.wp P Q a w) (hq : ∀ e a w, Q e a w → Q' e a w) : c.wp P Q' a w := wp_mono h hq

theorem vwp_sound : ∀ (c : Code) (vc : VC) (Q : Post) {E : Env} {H : Hp} {n : Nat} {a : Act} {w : World}, chkC P nt c vc = true → SR w0 S nt E H n a w → vwp (OK P) vc Q E H n → c.wp P (PostC w0 S nt Q) a w := by
  intro c
  induction c with
  | skip =>
    intro vc Q E H n a w hc h hv
    cases vc <;> first | (simp [chkC] at hc; done) | skip
    exact wp_skip ⟨E, H, n, h, hv⟩
  | region id ops draw =>
    intro vc Q E H n a w hc h hv
    cases vc <;> first | (simp [chkC] at hc; done) | skip
    rename_i gs ord
    have hQ : ∀ E' H' n' a' w', SR w0 S nt E' H' n' a' w' → Q .normal E' H' n' → PostC w0 S nt Q .normal a' w' := fun E' H' n' a' w' h1 h2 => ⟨E', H', n', h1, h2⟩
    cases draw with
    | false =>
      simp only [chkC, Bool.false_eq_true, if_false, Bool.and_eq_true, beq_iff_eq] at hc
      obtain ⟨rfl, hm⟩ := hc
      exact wp_region (vops_sound hQ _ gs h hm hv)
    | true =>
      simp only [chkC, if_true, Bool.and_eq_true, beq_iff_eq] at hc
      obtain ⟨⟨⟨hmo, hsel⟩, hl⟩, hm⟩ := hc
      refine wp_region_any hmo ?_
      rw [← hl]
      refine wpAny_of_B _ _ _ _ (draw_sound (late := lateA ops.size ord gs) hQ (fun _ _ _ h => h) hsel ord gs _ (Down.none _) (h.quiet_world ?_) ?_ hv)
      · exact ⟨rfl, rfl, rfl, Nat.le_refl _, fun _ _ => rfl⟩
      · rw [hl]; exact hm
  | seq x y ihx ihy =>
    intro vc Q E H n a w hc h hv
    cases vc <;> first | (simp [chkC] at hc; done) | skip
    rename_i x' y'
    simp only [chkC, Bool.and_eq_true] at hc
    refine wp_seq (wp_conv (ihx x' _ hc.1 h hv) ?_)
    intro e a' w' hq
    cases e <;> first | (exact hq.elim) | skip
    · obtain ⟨E', H', n', h', hv'⟩ := hq
      exact ihy y' Q hc.2 h' hv'
    · exact hq
    · exact hq
  | cond o x y ihx ihy =>
    intro vc Q E H n a w hc h hv
    cases vc <;> first | (simp [chkC] at hc; done) | skip
    rename_i o' x' y'
    simp only [chkC, Bool.and_eq_true] at hc
    obtain ⟨t, ht, hv⟩ := hv
    have hr := h.rel.ev hc.1.1
    rw [ht] at hr
    refine wp_cond hr.bool_inv ?_
    cases t with
    | true => exact ihx x' Q hc.1.2 h hv
    | false => exact ihy y' Q hc.2 h hv
  | block id x ih =>
    intro vc Q E H n a w hc h hv
    cases vc <;> first | (simp [chkC] at hc; done) | skip
    rename_i id' x'
    simp only [chkC, Bool.and_eq_true, beq_iff_eq] at hc
    obtain ⟨rfl, hc⟩ := hc
    refine wp_block (wp_conv (ih x' _ hc h hv) ?_)
    intro e a' w' hq
    cases e <;> first | (exact hq.elim) | skip
    · exact hq
    · obtain ⟨E', H', n', h', hv'⟩ := hq
      simp only [Exit.inBlock]
      simp only [Post.inBlock] at hv'
      split
      · rename_i e; rw [if_pos e] at hv'; exact ⟨E', H', n', h', hv'⟩
      · rename_i e; rw [if_neg e] at hv'; exact ⟨E', H', n', h', hv'⟩
    · exact hq
  | loop x ih =>
    intro vc Q E H n a w hc h hv
    cases vc <;> first | (simp [chkC] at hc; done) | skip
    rename_i x'
    simp only [chkC] at hc
    obtain ⟨k, hk⟩ := hv
    refine wp_loop_rounds k ?_
    have key : ∀ k E H n a w, SR w0 S nt E H n a w → rounds (vwp (OK P) x') Q k E H n → Code.rounds P x (PostC w0 S nt Q) k a w := by
      intro k
      induction k with
      | zero => intro E H n a w _ hk; exact hk.elim
      | succ k ihk =>
        intro E H n a w h hk
        rw [rounds_succ]
        refine wp_conv (ih x' _ hc h hk) ?_
        intro e a' w' hq
        cases e <;> first | (exact hq.elim) | skip
        · obtain ⟨E', H', n', h', hv'⟩ := hq
          exact ihk E' H' n' a' w' h' hv'
        · exact hq
        · exact hq
    exact key k E H n a w h hk
  | exit id =>
    intro vc Q E H n a w hc h hv
    cases vc <;> first | (simp [chkC] at hc; done) | skip
    rename_i id'
    obtain rfl : id = id' := by simpa [chkC] using hc
    exact wp_exit ⟨E, H, n, h, hv⟩
  | ret =>
    intro vc Q E H n a w hc h hv
    cases vc <;> first | (simp [chkC] at hc; done) | skip
    exact wp_ret ⟨E, H, n, h, hv⟩
  | _ =>
    intro vc Q E H n a w hc h hv
    cases vc <;> (simp [chkC] at hc)

def resOk (P : Program) (nt : Nat) : List ResultVar → List RVr → Bool
  | [], [] => true
  | .tmp t :: rs, .tmp t' :: vs => t == t' && decide (t < nt) && resOk P nt rs vs
  | .cell t ty :: rs, .cell t' sz :: vs => t == t' && decide (t < nt) && szOk P ty sz && resOk P nt rs vs
  | _, _ => false

def chkFn (P : Program) (f : FuncId) (vf : VFn) : Bool :=
  match P.funcs[f]? with
  | none => false
  | some fn => fn.ntmps == vf.nt && decide (vf.np ≤ vf.nt) && !(fn.name == "runtime.NumGoroutine") && resOk P vf.nt fn.results.toList vf.res && match fn.body with | some c => chkC P vf.nt c vf.body | none => false

def resF (tmps : Array Value) : ResultVar → Sem Value
  | .tmp t => pure (tmps.getD t undef)
  | .cell a t => do loadVar t (← asAddr (tmps.getD a undef))
theorem results_eq (fn : Func) (tmps : Array Value) : results fn tmps = (do let vs ← fn.results.mapM (resF tmps); pure (if h : vs.size = 1 then vs[0] else .tuple vs)) := by
  unfold results
  have : (fun (x : ResultVar) => (match x with | .tmp t => pure (tmps.getD t undef) | .cell a t => do loadVar t (← asAddr (tmps.getD a undef)) : Sem Value)) = resF tmps := by
    funext r
    cases r <;> rfl
  rw [← this]
  rfl

theorem results_ok : ∀ (rs : List ResultVar) (vs : List RVr) {E : Env} {H : Hp} {n : Nat} {a : Act} {w : World} {K : List AV → Prop}, SR w0 S nt E H n a w → resOk P nt rs vs = true → getR E H vs K →
    ∃ (us : List Value) (xs : List AV), K xs ∧ us.length = xs.length ∧ (∀ (i : Nat) (x : AV) (u : Value), xs[i]? = some x → us[i]? = some u → RV w (Stb w0 S H w) x u) ∧
      (rs.mapM (resF a.tmps)).run P w = .ok us w
  | [], [], E, H, n, a, w, K, h, _, hk => ⟨[], [], hk, rfl, by simp, by simp⟩
  | .tmp t :: rs, .tmp t' :: vs, E, H, n, a, w, K, h, hm, hk => by
    simp only [resOk, Bool.and_eq_true, beq_iff_eq, decide_eq_true_eq] at hm
    obtain ⟨⟨rfl, ht⟩, hm⟩ := hm
    obtain ⟨us, xs, hK, hl, hr, hrun⟩ := results_ok rs vs h hm hk
    refine ⟨a.tmps.getD t undef :: us, E t :: xs, hK, by simp [hl], fun i x u hx hu => ?_, ?_⟩
    · cases i with
      | zero =>
        obtain rfl : E t = x := by simpa using hx
        obtain rfl : a.tmps.getD t undef = u := by simpa using hu
        exact h.tm t ht
      | succ i => exact hr i x u (by simpa using hx) (by simpa using hu)
    · simp only [List.mapM_cons, resF, Sem.run_bind, Sem.run_pure, Result.andThen_ok, hrun]
  | .cell t ty :: rs, .cell t' sz :: vs, E, H, n, a, w, K, h, hm, hk => by
    simp only [resOk, Bool.and_eq_true, beq_iff_eq, decide_eq_true_eq] at hm
    obtain ⟨⟨⟨rfl, ht⟩, hsz⟩, hm⟩ := hm
    -- the load, as the operation's law has it
    have hq : vq E H (.ld 0 (.t t) sz) (fun _ v => getR E H vs fun vs' => K (v :: vs')) := hk
    have hnt : 0 < nt := Nat.lt_of_le_of_lt (Nat.zero_le _) ht
    obtain ⟨d, x, u, _, _, hK', hu, hrun⟩ := vq_sound (P := P) (o := { dst := some 0, op := .load ty (.tmp t), type := ty, pos := "", after := #[], guard := none }) h.blk h.rel (by simp [mOp, VOp.dst, mOp1, hsz, mOpd, ht, hnt]) hq
    have hrun0 := hrun w (fun _ => Below.refl _ _)
    obtain ⟨us, xs, hK, hl, hr, hrun'⟩ := results_ok rs vs h hm hK'
    have hload : (Instr.loadAt ty (a.tmps.getD t undef)).run P w = .ok u w := by
      have h0 : ((Instr.loadAt ty (a.tmps.getD t undef)).run P w).andThen (fun v w' => .ok (Next.value v) w') = .ok (.value u) w := by
        rw [← hrun0]
        simp [execOp, Act.eval]
      cases hl : (Instr.loadAt ty (a.tmps.getD t undef)).run P w with
      | ok v w1 => rw [hl] at h0; simpa using h0
      | halt x w1 => rw [hl] at h0; cases h0
    refine ⟨u :: us, x :: xs, hK, by simp [hl], fun i y v hx hv => ?_, ?_⟩
    · cases i with
      | zero =>
        obtain rfl : x = y := by simpa using hx
        obtain rfl : u = v := by simpa using hv
        exact hu
      | succ i => exact hr i y v (by simpa using hx) (by simpa using hv)
    · have hl2 : (resF a.tmps (.cell t ty)).run P w = .ok u w := by
        rw [← hload]
        show (do let x ← asAddr (a.tmps.getD t undef); loadVar ty x : Sem Value).run P w = (do let x ← Instr.sureAddr (a.tmps.getD t undef); loadVar ty x : Sem Value).run P w
        cases hv : a.tmps.getD t undef with
        | pointer ad => cases ad <;> first | rfl | (rw [hv] at hload; simp [Instr.loadAt, Instr.sureAddr] at hload)
        | _ => rw [hv] at hload; simp [Instr.loadAt, Instr.sureAddr] at hload
      simp only [List.mapM_cons, Sem.run_bind, hl2, Result.andThen_ok, hrun']
      simp
  | [], v :: vs, _, _, _, _, _, _, _, hm, _ => by simp [resOk] at hm
  | .tmp _ :: _, [], _, _, _, _, _, _, _, hm, _ => by simp [resOk] at hm
  | .cell _ _ :: _, [], _, _, _, _, _, _, _, hm, _ => by simp [resOk] at hm
  | .tmp _ :: _, .cell _ _ :: _, _, _, _, _, _, _, _, hm, _ => by simp [resOk] at hm
  | .cell _ _ :: _, .tmp _ :: _, _, _, _, _, _, _, _, hm, _ => by simp [resOk] at hm

theorem RV.to0 {w : World} {T : Nat → Prop} {x : AV} {v : Value} (h : RV w T x v) (ht : ∀ vs, x ≠ .tup vs) : RV0 w T x v := by
  cases x <;> first | exact h | exact absurd rfl (ht _)

/-- What the abstract machine says of a function's text holds of every call. -/
theorem fn_ok {f : FuncId} {vf : VFn} {args : List AV} {R : Nat → Nat → AV → Prop} (hc : chkFn P f vf = true) (hn : args.length = vf.np) (h : runs (OK P) vf args R) : OK P f args R := by
  unfold chkFn at hc
  cases hfn : P.funcs[f]? with
  | none => rw [hfn] at hc; cases hc
  | some fn =>
    rw [hfn] at hc
    simp only [Bool.and_eq_true, beq_iff_eq, decide_eq_true_eq, Bool.not_eq_true'] at hc
    obtain ⟨⟨⟨⟨hnt, hnp⟩, hname⟩, hres⟩, hbody⟩ := hc
    cases hb : fn.body with
    | none => rw [hb] at hbody; cases hbody
    | some c =>
      rw [hb] at hbody
      dsimp only at hbody
      refine ⟨⟨fn, hfn, by rw [hb]; rfl, hname⟩, fun w S vs hS hvs => ?_⟩
      have hsz : vs.size = vf.np := by rw [hvs.1, hn]
      have hsr : SR w S vf.nt (ini args) (fun _ => none) w.heap.size { tmps := vs ++ Array.replicate (fn.ntmps - vs.size) undef, defers := [] } w := by
        refine ⟨rfl, by simp [hnt]; omega, Below.refl _ _, Nat.le_refl _, Nat.le_refl _, fun t ht => ?_, fun d k hk => (by cases hk), fun d d' k k' hk => (by cases hk)⟩
        unfold ini
        rcases Nat.lt_or_ge t args.length with hlt | hge
        · obtain ⟨u, hu, hr⟩ := hvs.2 t args[t] (List.getElem?_eq_getElem hlt)
          have hlt' : t < vs.size := by rw [hvs.1]; exact hlt
          have : (vs ++ Array.replicate (fn.ntmps - vs.size) undef).getD t undef = u := by
            rw [Array.getD_eq_getD_getElem?, Array.getElem?_append_left hlt', hu]
            rfl
          rw [this, List.getD_eq_getElem?_getD, List.getElem?_eq_getElem hlt]
          exact hr.mono (on_same fun g hg => ⟨.inl hg, hS g hg, fun d k hk => (by cases hk)⟩)
        · rw [List.getD_eq_getElem?_getD, List.getElem?_eq_none hge]
          trivial
      have hwp := vwp_sound (P := P) c vf.body _ hbody hsr (h w.heap.size)
      have fin : ∀ (E : Env) (H : Hp) (n : Nat) (a : Act) (w' : World), SR w S vf.nt E H n a w' → (getR E H vf.res fun vs => solE H vs fun vs' _ => R w.heap.size n (mkR vs')) →
          a.defers = [] ∧ ∃ v, (results fn a.tmps).run P w' = .ok v w' ∧ ∃ v' r hi, Ending.returned v = .returned v' ∧ w.heap.size ≤ hi ∧ hi ≤ w'.heap.size ∧ R w.heap.size hi r ∧ RV w' (fun b => S b ∨ (w.heap.size ≤ b ∧ b < w'.heap.size)) r v' ∧ Below w.heap.size w w' := by
        intro E H n a w' hs hg
        obtain ⟨us, xs, hK, hl, hr, hrun⟩ := results_ok _ _ hs hres hg
        obtain ⟨ys, H', hR, hs', _, hyl, hyr⟩ := solE_ok xs us hs hl.symm (fun i x v hx hv => hr i x v hx hv) hK
        have hon : On w' w' (Stb w S H' w') (fun b => S b ∨ (w.heap.size ≤ b ∧ b < w'.heap.size)) := on_same fun g hg => hg.1.imp id fun h' => ⟨h', hg.2.1⟩
        have hrs : (results fn a.tmps).run P w' = .ok (if h : us.toArray.size = 1 then us.toArray[0] else .tuple us.toArray) w' := by
          rw [results_eq, Sem.run_bind, Array.mapM_eq_mapM_toList, Sem.run_map, hrun]
          rfl
        refine ⟨hs.defs, _, hrs, _, mkR ys, n, rfl, hs.nge, hs.nle, hR, ?_, hs.bel⟩
        by_cases h1 : us.length = 1
        · obtain ⟨u, rfl⟩ := List.length_eq_one_iff.1 h1
          rw [hyl.symm] at h1
          obtain ⟨y, rfl⟩ := List.length_eq_one_iff.1 h1
          exact (hyr 0 y u rfl rfl).1.mono hon
        · rw [dif_neg (by simpa using h1)]
          have : mkR ys = .tup ys := by
            rcases ys with _ | ⟨y, _ | ⟨y2, ys⟩⟩
            · rfl
            · exact absurd hyl.symm h1
            · rfl
          rw [this]
          refine ⟨us.toArray, rfl, by simp [hyl], fun i x hi => ?_⟩
          have hlt : i < us.length := by rw [← hyl]; exact (List.getElem?_eq_some_iff.1 hi).1
          obtain ⟨g1, g2, _⟩ := hyr i x us[i] hi (List.getElem?_eq_getElem hlt)
          exact ⟨us[i], by simp [hlt], (g1.to0 g2).mono hon⟩
      refine calls_of_wp hfn hb (wp_conv hwp fun e a w' hq => ?_)
      cases e <;> first | (exact hq.elim) | skip
      · obtain ⟨E, H, n, hs, hg⟩ := hq
        exact fin E H n a w' hs hg
      · obtain ⟨E, H, n, hs, hg⟩ := hq
        exact hg.elim
      · obtain ⟨E, H, n, hs, hg⟩ := hq
        exact fin E H n a w' hs hg
end
end Go.AVM
