/- What a caller hands in, opened as a value of the abstract machine: by the shape of its type. -/
import Derived.Test.YtflhfmpkmbhaiaaMI
import Derived.SliceStrings
import Derived.ChangeOld
namespace Go.AVM
set_option linter.unusedSimpArgs false
set_option linter.unusedVariables false
open Go.RowKit Go.ChangeShapes Go.WideShapes
inductive Sh where
  | bool
  | int (k : IntKind)
  | str
  | sl (e : Sh)
  | st (fs : List Sh)
def Sh.cells : Sh → Nat
  | .st fs => fs.length
  | _ => 1
def Sh.isSt : Sh → Bool
  | .st _ => true
  | _ => false
/-- the type reads as the shape says -/
inductive TyOk (P : Program) : Sh → TypeId → Prop
  | bool (t : TypeId) (h : P.underlying t = some .bool) : TyOk P .bool t
  | int (t : TypeId) (k : IntKind) (h : P.underlying t = some (.int k)) : TyOk P (.int k) t
  | str (t : TypeId) (h : P.underlying t = some .string) : TyOk P .str t
  | sl (t u : TypeId) (e : Sh) (h : P.underlying t = some (.slice u)) (hc : P.cellsOf u = e.cells) (hp : 0 < e.cells) (he : TyOk P e u) : TyOk P (.sl e) t
  | st (t : TypeId) (gs : Array Field) (fs : List Sh) (h : P.underlying t = some (.struct gs)) (hc : P.cellsOf t = fs.length) (hl : gs.size = fs.length)
      (hf : ∀ (i : Nat) (f : Sh) (g : Field), fs[i]? = some f → gs[i]? = some g → f.isSt = false ∧ g.offset = i ∧ P.cellsOf g.type = 1) (hr : ∀ (i : Nat) (f : Sh) (g : Field), fs[i]? = some f → gs[i]? = some g → TyOk P f g.type) : TyOk P (.st fs) t
inductive Fits : Sh → AV → Prop
  | bool (b : Bool) : Fits .bool (.bool b)
  | int (k : IntKind) (n : Int) (h : k.min ≤ n ∧ n ≤ k.max) : Fits (.int k) (.int k n)
  | str (s : ByteArray) (h : s.size ≤ maxLen) : Fits .str (.str s)
  | sl (e : Sh) (xs : List AV) (hl : xs.length ≤ maxLen) (h : ∀ x ∈ xs, Fits e x) : Fits (.sl e) (.lsl none xs.length xs)
  | st (fs : List Sh) (xs : List AV) (hl : fs.length = xs.length) (h : ∀ (i : Nat) (f : Sh) (x : AV), fs[i]? = some f → xs[i]? = some x → Fits f x) : Fits (.st fs) (.agg xs)
theorem Fits.agg {sh : Sh} {x : AV} (h : Fits sh x) : x.isAgg = sh.isSt ∧ (0 < sh.cells → x.sz = sh.cells) := by
  cases h <;> simp_all [AV.isAgg, Sh.isSt, AV.sz, Sh.cells]

theorem cell_spot {w : World} {a : Addr} {v : Value} (h : w.cell? a = some v) : a.spot = none ∧ a.block < w.heap.size := by
  unfold World.cell? at h
  split at h
  · rename_i he
    split at h
    · cases h
    · rename_i hs
      refine ⟨by simpa using hs, ?_⟩
      exact (Array.getElem?_eq_some_iff.1 he).1
  · cases h
theorem add_plain (a : Addr) (i : Nat) (h : a.spot = none) : a.add i = ⟨a.block, a.off + i, none⟩ := by
  cases a
  simp only at h
  subst h
  simp [Addr.add]
theorem opened {H : Type} {enc : TypeId × Value → H} {P : Program} {w : World} {spare : Nat → Bool} {held : Bool} : ∀ (fuel : Nat) (sh : Sh) (t : TypeId) (cs : List Value) (x : DataW H × List MemPlace), DataW.trod enc P w 0 spare held fuel t cs = some x → TyOk P sh t →
    ∃ av, Fits sh av ∧ RC w (fun b => b < w.heap.size) av cs := by
  intro fuel
  induction fuel with
  | zero => intro sh t cs x h; simp [DataW.trod] at h
  | succ n ih =>
    intro sh t cs x h hty
    cases hty with
    | bool _ ht =>
      obtain ⟨b, rfl, _⟩ := DataW.trod_bool ht h
      exact ⟨_, .bool b, .bool b⟩
    | int _ k ht =>
      obtain ⟨m, rfl, _, hw⟩ := DataW.trod_int ht h
      exact ⟨_, .int k m (by simpa [Lit.wf] using hw), .int k m⟩
    | str _ ht =>
      obtain ⟨s, rfl, _, hw⟩ := DataW.trod_string ht h
      exact ⟨_, .str s hw, .str s⟩
    | sl _ u e ht hc hp he =>
      rcases DataW.trod_slice ht h with ⟨rfl, _⟩ | ⟨a, len, cap, elems, rest, m, hm, rfl, _, _, hl, hcap, hlen, hel, _, _⟩
      · exact ⟨_, .sl e [] (Nat.zero_le _) (by simp), .lsl none 0 0 1 [] none (fun _ => []) (Nat.le_refl _) (Nat.le_refl _) (Nat.le_refl _) (Nat.zero_le _) (by simp) (by simp) (by simp)⟩
      · obtain rfl : n = m := by omega
        have each : ∀ i, i < len → ∃ (cs : List Value) (av : AV), w.cells? 0 (a.add (i * P.cellsOf u)) (P.cellsOf u) = some cs ∧ Fits e av ∧ RC w (fun b => b < w.heap.size) av cs := fun i hi => by
          have h1 := hel i hi
          rw [List.getElem?_eq_getElem (by omega), Option.bind_eq_some_iff] at h1
          obtain ⟨cs, h2, h3⟩ := h1
          obtain ⟨av, h4, h5⟩ := ih e u cs _ h3 he
          exact ⟨cs, av, h2, h4, h5⟩
        obtain ⟨cells, hcells⟩ : ∃ f : Nat → List Value, ∀ i, i < len → ∃ av, w.cells? 0 (a.add (i * P.cellsOf u)) (P.cellsOf u) = some (f i) ∧ Fits e av ∧ RC w (fun b => b < w.heap.size) av (f i) := by
          refine ⟨fun i => if hi : i < len then (each i hi).choose else [], fun i hi => ?_⟩
          simp only [dif_pos hi]
          exact (each i hi).choose_spec
        obtain ⟨av, hav⟩ : ∃ f : Nat → AV, ∀ i, i < len → w.cells? 0 (a.add (i * P.cellsOf u)) (P.cellsOf u) = some (cells i) ∧ Fits e (f i) ∧ RC w (fun b => b < w.heap.size) (f i) (cells i) := by
          refine ⟨fun i => if hi : i < len then (hcells i hi).choose else .undef, fun i hi => ?_⟩
          simp only [dif_pos hi]
          exact (hcells i hi).choose_spec
        have hget : ∀ (i : Nat) (x : AV), ((List.range len).map av)[i]? = some x → i < len ∧ x = av i := fun i x hx => by
          rw [List.getElem?_map] at hx
          obtain ⟨j, hj, rfl⟩ := Option.map_eq_some_iff.1 hx
          obtain ⟨h1, h2⟩ := List.getElem?_eq_some_iff.1 hj
          simp at h1 h2
          subst h2
          exact ⟨h1, rfl⟩
        have hxl : ((List.range len).map av).length = len := by simp
        refine ⟨.lsl none len ((List.range len).map av), ?_, ?_⟩
        · have := Fits.sl e ((List.range len).map av) (by rw [hxl]; omega) fun x hx => by
            obtain ⟨i, hi⟩ := List.mem_iff_getElem?.1 hx
            obtain ⟨h1, rfl⟩ := hget i x hi
            exact (hav i h1).2.1
          rwa [hxl] at this
        · have hsp : 0 < len → a.spot = none ∧ a.block < w.heap.size := fun hpos => by
            obtain ⟨h1, _, _⟩ := hav 0 hpos
            obtain ⟨_, h2, h3⟩ := World.cells?_some h1
            have h4 := h3 0 (by omega)
            rw [List.getElem?_eq_getElem (by omega)] at h4
            rw [show (a.add (0 * P.cellsOf u)).add 0 = a by simp [Addr.add]] at h4
            exact cell_spot h4
          refine .lsl none len cap e.cells _ (some a) cells hl (by rw [hxl]; omega) (by rw [hxl]; omega) hcap (fun hne => ?_) (by simp) (fun i x hi => ?_)
          · have hpos : 0 < len := by
              rcases Nat.eq_zero_or_pos len with h0 | h0
              · subst h0; simp at hne
              · exact h0
            obtain ⟨h1, h2⟩ := hsp hpos
            refine ⟨a.block, a.off, by cases a; simp_all, h2, fun i x hi => ?_⟩
            obtain ⟨h3, rfl⟩ := hget i x hi
            obtain ⟨h4, _, _⟩ := hav i h3
            obtain ⟨_, h5, h6⟩ := World.cells?_some h4
            refine ⟨by rw [h5, hc], fun j v hj => ?_⟩
            have hjl := (List.getElem?_eq_some_iff.1 hj).1
            have h7 := h6 j (by omega)
            rw [hj, add_plain a _ h1, add_plain _ _ rfl, hc] at h7
            exact h7
          · obtain ⟨h3, rfl⟩ := hget i x hi
            exact (hav i h3).2.2
    | st _ gs fs ht hc hl hf hr =>
      obtain ⟨xs, m, hm, _, hcs, hxl, hel⟩ := DataW.trod_struct ht h
      obtain rfl : n = m := by omega
      have each : ∀ i, i < fs.length → ∃ av c, fs[i]?.isSome = true ∧ cs[i]? = some c ∧ (∀ f, fs[i]? = some f → Fits f av) ∧ RC w (fun b => b < w.heap.size) av [c] ∧ av.isAgg = false := fun i hi => by
        have hg := Array.getElem?_eq_getElem (xs := gs) (i := i) (by omega)
        have hfi := List.getElem?_eq_getElem hi
        obtain ⟨q1, q2, q3⟩ := hf i _ _ hfi hg
        have q4 := hr i _ _ hfi hg
        have h1 := hel i _ hg
        rw [q2, q3, List.getElem?_eq_getElem (by omega)] at h1
        have hci : i < cs.length := by omega
        have h2 : (cs.drop i).take 1 = [cs[i]] := by
          rw [List.drop_eq_getElem_cons hci]
          rfl
        rw [h2] at h1
        obtain ⟨av, h3, h4⟩ := ih _ _ _ _ h1 q4
        refine ⟨av, cs[i], by simp [hfi], List.getElem?_eq_getElem hci, fun f hf' => ?_, h4, by rw [h3.agg.1, q1]⟩
        rw [hfi] at hf'
        obtain rfl := Option.some.inj hf'
        exact h3
      obtain ⟨av, hav⟩ : ∃ g : Nat → AV, ∀ i, i < fs.length → ∃ c, cs[i]? = some c ∧ (∀ f, fs[i]? = some f → Fits f (g i)) ∧ RC w (fun b => b < w.heap.size) (g i) [c] ∧ (g i).isAgg = false := by
        refine ⟨fun i => if hi : i < fs.length then (each i hi).choose else .undef, fun i hi => ?_⟩
        simp only [dif_pos hi]
        obtain ⟨c, _, h⟩ := (each i hi).choose_spec
        exact ⟨c, h⟩
      have hget : ∀ (i : Nat) (x : AV), ((List.range fs.length).map av)[i]? = some x → i < fs.length ∧ x = av i := fun i x hx => by
        rw [List.getElem?_map] at hx
        obtain ⟨j, hj, rfl⟩ := Option.map_eq_some_iff.1 hx
        obtain ⟨h1, h2⟩ := List.getElem?_eq_some_iff.1 hj
        simp at h1 h2
        subst h2
        exact ⟨h1, rfl⟩
      refine ⟨.agg ((List.range fs.length).map av), .st fs _ (by simp) fun i f x h1 h2 => ?_, .agg _ cs (by simp; omega) (fun f hf' => ?_) fun i f c h1 h2 => ?_⟩
      · obtain ⟨h3, rfl⟩ := hget i x h2
        obtain ⟨c, _, h4, _⟩ := hav i h3
        exact h4 f h1
      · obtain ⟨i, hi⟩ := List.mem_iff_getElem?.1 hf'
        obtain ⟨h3, rfl⟩ := hget i f hi
        obtain ⟨c, _, _, _, h4⟩ := hav i h3
        exact h4
      · obtain ⟨h3, rfl⟩ := hget i f h1
        obtain ⟨c', h4, _, h5, _⟩ := hav i h3
        rw [h2] at h4
        obtain rfl := Option.some.inj h4
        exact h5

/-- What a caller hands in. -/
theorem opened_arg {H : Type} {enc : TypeId × Value → H} {P : Program} {w : World} {spare : Nat → Bool} {held : Bool} {r : Reach} {b0 : Nat} {sh : Sh} {t : TypeId} {v : Value} {d : DataW H} {ps : List MemPlace}
    (hty : TyOk P sh t) (hok : Value.okWide P w r b0 t v) (h : DataW.Trod enc P w 0 spare held t v d ps) : ∃ av, Fits sh av ∧ RV w (fun b => b < w.heap.size) av v := by
  obtain ⟨fuel, hf⟩ := h
  obtain ⟨av, h1, h2⟩ := opened fuel sh t _ _ hf hty
  refine ⟨av, h1, ?_⟩
  cases hty with
  | bool _ ht =>
    obtain ⟨b, rfl⟩ := okWide_bool ht hok
    exact RC.rv (by simpa [Value.cells] using h2) (by rw [h1.agg.1]; rfl)
  | int _ k ht =>
    obtain ⟨n, rfl⟩ := okWide_int ht hok
    exact RC.rv (by simpa [Value.cells] using h2) (by rw [h1.agg.1]; rfl)
  | str _ ht =>
    obtain ⟨s, rfl⟩ := okWide_string ht hok
    exact RC.rv (by simpa [Value.cells] using h2) (by rw [h1.agg.1]; rfl)
  | sl _ u e ht hc hp he =>
    obtain ⟨a, len, cap, rfl⟩ := okWide_slice ht hok
    exact RC.rv (by simpa [Value.cells] using h2) (by rw [h1.agg.1]; rfl)
  | st _ gs fs ht hc hl hf hr =>
    simp only [Value.okWide, ht] at hok
    obtain ⟨cs, rfl, _⟩ := hok
    cases h1 with
    | st _ xs hl' hx => exact ⟨cs, rfl, by simpa [Value.cells] using h2⟩

/-! ### lists -/
theorem fits_list {α : Type} (e : Sh) (f : α → AV) (ok : α → Prop) (he : ∀ x, Fits e x → ∃ y, x = f y ∧ ok y) {x : AV} (h : Fits (.sl e) x) : ∃ ys : List α, x = .lsl none ys.length (ys.map f) ∧ ys.length ≤ maxLen ∧ ∀ y ∈ ys, ok y := by
  cases h with
  | sl _ xs hl hx =>
    have key : ∀ xs : List AV, (∀ x ∈ xs, Fits e x) → ∃ ys : List α, xs = ys.map f ∧ ∀ y ∈ ys, ok y := by
      intro xs
      induction xs with
      | nil => exact fun _ => ⟨[], rfl, by simp⟩
      | cons x xs ih =>
        intro hx
        obtain ⟨y, rfl, hy⟩ := he x (hx x List.mem_cons_self)
        obtain ⟨ys, rfl, hys⟩ := ih fun z hz => hx z (List.mem_cons_of_mem _ hz)
        exact ⟨y :: ys, rfl, fun z hz => by
          rcases List.mem_cons.1 hz with rfl | hz
          · exact hy
          · exact hys z hz⟩
    obtain ⟨ys, rfl, hys⟩ := key xs hx
    exact ⟨ys, by simp, by simpa using hl, hys⟩
theorem fits_str {x : AV} (h : Fits .str x) : ∃ s, x = .str s ∧ s.size ≤ maxLen := by
  cases h with
  | str s h => exact ⟨s, rfl, h⟩
theorem fits_strs {x : AV} (h : Fits (.sl .str) x) : ∃ ss : List ByteArray, x = strs ss ∧ ss.length ≤ 9223372036854775807 ∧ ∀ s ∈ ss, s.size ≤ 9223372036854775807 :=
  fits_list .str .str (fun s => s.size ≤ maxLen) (fun _ => fits_str) h
/-- values one by one -/
theorem rvs2 {w : World} {T : Nat → Prop} {x y : AV} {u v : Value} (h1 : RV w T x u) (h2 : RV w T y v) : RVs w T [x, y] #[u, v] := by
  refine ⟨rfl, fun i z hz => ?_⟩
  rcases i with _ | _ | i
  · obtain rfl : x = z := by simpa using hz
    exact ⟨u, rfl, h1⟩
  · obtain rfl : y = z := by simpa using hz
    exact ⟨v, rfl, h2⟩
  · simp at hz
theorem rvs1 {w : World} {T : Nat → Prop} {x : AV} {u : Value} (h1 : RV w T x u) : RVs w T [x] #[u] := by
  refine ⟨rfl, fun i z hz => ?_⟩
  rcases i with _ | i
  · obtain rfl : x = z := by simpa using hz
    exact ⟨u, rfl, h1⟩
  · simp at hz
theorem rvs3 {w : World} {T : Nat → Prop} {x y z : AV} {u v t : Value} (h1 : RV w T x u) (h2 : RV w T y v) (h3 : RV w T z t) : RVs w T [x, y, z] #[u, v, t] := by
  refine ⟨rfl, fun i q hq => ?_⟩
  rcases i with _ | _ | _ | i
  · obtain rfl : x = q := by simpa using hq
    exact ⟨u, rfl, h1⟩
  · obtain rfl : y = q := by simpa using hq
    exact ⟨v, rfl, h2⟩
  · obtain rfl : z = q := by simpa using hq
    exact ⟨t, rfl, h3⟩
  · simp at hq
end Go.AVM
