/- Values that read as plainer ones; small sums of the machine's steps. -/
import Derived.Test.YtnanbjnadkoekaaDoorVJ
import Derived.Test.YtnanbjnadkoekaaDoorVK
namespace Go.AVM
set_option linter.unusedSimpArgs false
set_option linter.unusedVariables false

/-- what reads as x reads as y -/
inductive Wk : AV → AV → Prop
  | refl (x : AV) : Wk x x
  | emp : Wk .emp (.lsl none 0 [])
  | lsl (t : Option (Nat × Nat)) (len : Nat) (xs ys : List AV) (h1 : len ≤ ys.length) (h2 : ys.length ≤ xs.length) (h : ∀ (i : Nat) (x y : AV), xs[i]? = some x → ys[i]? = some y → Wk x y) : Wk (.lsl t len xs) (.lsl none len ys)
  | agg (fs gs : List AV) (hl : fs.length = gs.length) (h : ∀ (i : Nat) (x y : AV), fs[i]? = some x → gs[i]? = some y → Wk x y) : Wk (.agg fs) (.agg gs)
theorem Wk.kind {x y : AV} (h : Wk x y) : y.isAgg = x.isAgg ∧ y.sz = x.sz := by
  cases h <;> simp_all [AV.isAgg, AV.sz]
theorem Wk.rc {w : World} {T : Nat → Prop} {x y : AV} (h : Wk x y) : ∀ {cs : List Value}, RC w T x cs → RC w T y cs := by
  induction h with
  | refl x => exact fun h => h
  | emp =>
    intro cs h
    cases h with
    | emp a => exact .lsl none 0 0 0 [] a (fun _ => []) (Nat.le_refl _) (Nat.le_refl _) (Nat.le_refl _) (Nat.zero_le _) (by simp) (by simp) (by simp)
  | lsl t len xs ys h1 h2 h ih =>
    intro cs hr
    cases hr with
    | lsl _ _ cap s _ a cells g1 g2 g3 hm hne ht hrc =>
    have hx : ∀ (i : Nat) (y : AV), ys[i]? = some y → ∃ x, xs[i]? = some x := fun i y hy => by
      have hlt := (List.getElem?_eq_some_iff.1 hy).1
      exact ⟨xs[i], List.getElem?_eq_getElem (by omega)⟩
    refine .lsl none len cap s ys a cells g1 h1 (Nat.le_trans h2 g3) hm (fun hy => ?_) (by simp) (fun i y hy => ?_)
    · have hxne : xs ≠ [] := by
        rintro rfl
        exact hy (List.eq_nil_of_length_eq_zero (Nat.le_zero.1 h2))
      obtain ⟨g, off, ha, hT, hc⟩ := hne hxne
      refine ⟨g, off, ha, hT, fun i y hy => ?_⟩
      obtain ⟨x, hx⟩ := hx i y hy
      exact hc i x hx
    · obtain ⟨x, hx⟩ := hx i y hy
      exact ih i x y hx hy (hrc i x hx)
  | agg fs gs hl h ih =>
    intro cs hr
    cases hr with
    | agg _ _ g1 g2 g3 =>
    have hx : ∀ (i : Nat) (y : AV), gs[i]? = some y → ∃ x, fs[i]? = some x := fun i y hy => by
      have hlt := (List.getElem?_eq_some_iff.1 hy).1
      exact ⟨fs[i], List.getElem?_eq_getElem (by omega)⟩
    refine .agg gs cs (by omega) (fun g hg => ?_) (fun i f c hf hc => ?_)
    · obtain ⟨i, hi⟩ := List.mem_iff_getElem?.1 hg
      obtain ⟨x, hx⟩ := hx i g hi
      rw [(h i x g hx hi).kind.1]
      exact g2 x (List.mem_of_getElem? hx)
    · obtain ⟨x, hx⟩ := hx i f hf
      exact ih i x f hx hf (g3 i x c hx hc)
theorem Wk.rv {w : World} {T : Nat → Prop} {x y : AV} {v : Value} (h : Wk x y) (hr : RV w T x v) : RV w T y v := by
  cases h with
  | refl => exact hr
  | emp => exact Wk.rc (T := T) .emp hr
  | lsl t len xs ys h1 h2 h => exact Wk.rc (.lsl t len xs ys h1 h2 h) hr
  | agg fs gs hl h =>
    obtain ⟨cs, rfl, hc⟩ := hr
    exact ⟨cs, rfl, Wk.rc (.agg fs gs hl h) hc⟩
inductive WkL : List AV → List AV → Prop
  | nil : WkL [] []
  | cons {x y : AV} {xs ys : List AV} (h : Wk x y) (hs : WkL xs ys) : WkL (x :: xs) (y :: ys)
theorem WkL.get {xs ys : List AV} (h : WkL xs ys) : xs.length = ys.length ∧ ∀ (i : Nat) (y : AV), ys[i]? = some y → ∃ x, xs[i]? = some x ∧ Wk x y := by
  induction h with
  | nil => exact ⟨rfl, by simp⟩
  | cons h hs ih =>
    refine ⟨by simp [ih.1], fun i y hy => ?_⟩
    cases i with
    | zero =>
      simp at hy
      subst hy
      exact ⟨_, rfl, h⟩
    | succ i => exact ih.2 i y (by simpa using hy)
theorem OK.wk {P : Program} {f : FuncId} {args args' : List AV} {R : Nat → Nat → AV → Prop} (h : OK P f args' R) (hw : WkL args args') : OK P f args R := by
  obtain ⟨h1, h2⟩ := hw.get
  have key : ∀ {w : World} {S : Nat → Prop} {vs : Array Value}, RVs w S args vs → RVs w S args' vs := fun hvs => ⟨by rw [← h1]; exact hvs.1, fun i y hy => by
    obtain ⟨x, hx, hxy⟩ := h2 i y hy
    obtain ⟨u, hu, hr⟩ := hvs.2 i x hx
    exact ⟨u, hu, hxy.rv hr⟩⟩
  exact h.imp (fun h => ⟨h.1, fun w S vs hS hvs => h.2 w S vs hS (key hvs)⟩) fun h w S vs hS hvs => h w S vs hS (key hvs)
theorem Wk.list {t : Option (Nat × Nat)} {α : Type} (e f : α → AV) (xs : List α) (h : ∀ x ∈ xs, Wk (e x) (f x)) : Wk (.lsl t xs.length (xs.map e)) (.lsl none xs.length (xs.map f)) := by
  refine .lsl t _ _ _ (by simp) (by simp) fun i x y hx hy => ?_
  rw [List.getElem?_map] at hx hy
  obtain ⟨z, hz, rfl⟩ := Option.map_eq_some_iff.1 hx
  rw [hz] at hy
  obtain rfl := Option.some.inj hy
  exact h z (List.mem_of_getElem? hz)

theorem Wk.strip (t : Option (Nat × Nat)) (n : Nat) (xs : List AV) (h : n ≤ xs.length) : Wk (.lsl t n xs) (.lsl none n xs) :=
  .lsl t n xs xs h (Nat.le_refl _) fun i x y hx hy => by rw [hx] at hy; obtain rfl := Option.some.inj hy; exact .refl _
/-- a field, or a list, as a callee may be handed it -/
inductive Pf (fl : Bool) : AV → Prop
  | bool (b : Bool) : Pf fl (.bool b)
  | int (k : IntKind) (n : Int) : Pf fl (.int k n)
  | str (s : ByteArray) : Pf fl (.str s)
  | lsl (n : Nat) (ys : List AV) (h : fl = false → n = ys.length) (hn : n ≤ ys.length) : Pf fl (.lsl none n ys)
theorem rd1_wk {fl : Bool} {r y : AV} (hp : Pf fl y) (h : Wk r y) (H : Hp) : ∃ r', rd1o fl H r = some (r', []) ∧ Wk r' y := by
  cases hp with
  | bool b => cases h; exact ⟨_, rfl, .refl _⟩
  | int k n => cases h; exact ⟨_, rfl, .refl _⟩
  | str s => cases h; exact ⟨_, rfl, .refl _⟩
  | lsl n ys hy hn =>
    cases h with
    | refl =>
      refine ⟨_, rfl, ?_⟩
      cases fl with
      | true => exact .refl _
      | false =>
        have := hy rfl
        simp only [Bool.false_eq_true, if_false]
        rw [List.take_of_length_le (by omega)]
        exact .refl _
    | emp => exact ⟨_, rfl, .refl _⟩
    | lsl t _ xs _ h1 h2 h =>
      refine ⟨_, rfl, ?_⟩
      cases fl with
      | true => exact .lsl none n xs ys h1 h2 h
      | false =>
        have := hy rfl
        simp only [Bool.false_eq_true, if_false]
        refine .lsl none n (xs.take n) ys h1 (by simp; omega) fun i x y hx hy => ?_
        rw [List.getElem?_take] at hx
        split at hx
        · exact h i x y hx hy
        · cases hx
theorem rds_wk {fl : Bool} (H : Hp) : ∀ (fs gs : List AV), fs.length = gs.length → (∀ g ∈ gs, Pf fl g) → (∀ (i : Nat) (x y : AV), fs[i]? = some x → gs[i]? = some y → Wk x y) →
    ∃ fs', rdso fl H fs = some (fs', []) ∧ fs'.length = gs.length ∧ ∀ (i : Nat) (x y : AV), fs'[i]? = some x → gs[i]? = some y → Wk x y
  | [], [], _, _, _ => ⟨[], rfl, rfl, by simp⟩
  | f :: fs, [], hl, _, _ => by simp at hl
  | [], g :: gs, hl, _, _ => by simp at hl
  | f :: fs, g :: gs, hl, hp, h => by
    obtain ⟨f', h1, h2⟩ := rd1_wk (hp g List.mem_cons_self) (h 0 f g rfl rfl) H
    obtain ⟨fs', h3, h4, h5⟩ := rds_wk H fs gs (by simpa using hl) (fun x hx => hp x (List.mem_cons_of_mem _ hx)) fun i x y hx hy => h (i + 1) x y (by simpa using hx) (by simpa using hy)
    refine ⟨f' :: fs', by simp [rdso, h1, h3], by simp [h4], fun i x y hx hy => ?_⟩
    cases i with
    | zero =>
      simp at hx hy
      subst hx hy
      exact h2
    | succ i => exact h5 i x y (by simpa using hx) (by simpa using hy)
inductive Pl (fl : Bool) : AV → Prop
  | fld (y : AV) (h : Pf fl y) : Pl fl y
  | agg (gs : List AV) (h : ∀ g ∈ gs, Pf fl g) : Pl fl (.agg gs)
theorem rd3_of1 {fl : Bool} {H : Hp} {r r' : AV} (h : rd1o fl H r = some (r', [])) (hn : ∀ f c, r ≠ .fn f c) : rd3o fl H r = some (r', []) := by
  cases r <;> first | exact h | (exact absurd rfl (hn _ _)) | (simp [rd1o] at h)
theorem rd_wk {fl : Bool} {r y : AV} (h : Wk r y) (hp : Pl fl y) (H : Hp) : ∃ r', rd3o fl H r = some (r', []) ∧ Wk r' y := by
  cases hp with
  | fld _ hp =>
    obtain ⟨r', h1, h2⟩ := rd1_wk hp h H
    refine ⟨r', rd3_of1 h1 ?_, h2⟩
    rintro f c rfl
    cases h
    cases hp
  | agg gs hp =>
    have key : ∀ fs : List AV, fs.length = gs.length → (∀ (i : Nat) (x y : AV), fs[i]? = some x → gs[i]? = some y → Wk x y) → ∃ r', rd3o fl H (.agg fs) = some (r', []) ∧ Wk r' (.agg gs) := fun fs hl hw => by
      obtain ⟨fs', h1, h2, h3⟩ := rds_wk H fs gs hl hp hw
      exact ⟨.agg fs', by simp [rd3o, rd2o, rdpo, h1], .agg fs' gs h2 h3⟩
    cases h with
    | refl => exact key gs rfl fun i x y hx hy => by rw [hx] at hy; obtain rfl := Option.some.inj hy; exact .refl _
    | agg fs _ hl hw => exact key fs hl hw
theorem sol1_wk {fl : Bool} {r y : AV} (hp : Pf fl y) (h : Wk r y) (H : Hp) : solo1 H r = some (r, H) := by
  cases hp <;> cases h <;> rfl
theorem sols_wk {fl : Bool} (H : Hp) : ∀ (fs gs : List AV), fs.length = gs.length → (∀ g ∈ gs, Pf fl g) → (∀ (i : Nat) (x y : AV), fs[i]? = some x → gs[i]? = some y → Wk x y) → solso H fs = some (fs, H)
  | [], [], _, _, _ => rfl
  | f :: fs, [], hl, _, _ => by simp at hl
  | [], g :: gs, hl, _, _ => by simp at hl
  | f :: fs, g :: gs, hl, hp, h => by
    have h1 := sol1_wk (hp g List.mem_cons_self) (h 0 f g rfl rfl) H
    have h3 := sols_wk H fs gs (by simpa using hl) (fun x hx => hp x (List.mem_cons_of_mem _ hx)) fun i x y hx hy => h (i + 1) x y (by simpa using hx) (by simpa using hy)
    simp [solso, h1, h3]
theorem sol_wk {fl : Bool} {r y : AV} (h : Wk r y) (hp : Pl fl y) (H : Hp) : solo H r = some (r, H) := by
  cases hp with
  | fld _ hp =>
    have := sol1_wk hp h H
    cases r <;> first | exact this | (cases h <;> cases hp)
  | agg gs hp =>
    cases h with
    | refl =>
      have := sols_wk H gs gs rfl hp fun i x y hx hy => by rw [hx] at hy; obtain rfl := Option.some.inj hy; exact .refl _
      simp [solo, this]
    | agg fs _ hl hw =>
      have := sols_wk H fs gs hl hp hw
      simp [solo, this]

/-- whatever a call has given -/
theorem r_any (d lo hi : Nat) (r : AV) (E : Env) (H : Hp) (K : Env → Hp → Nat → Prop) : bres false d lo hi E H [] r K = K (upd E d r) H hi := by
  simp only [bres, impv, frz]
  split <;> rfl
/-- loads and stores at an own row that is plain to see -/
theorem ldv_f (H : Hp) (sz : Option Nat) (d b s i f : Nat) : ldv H sz (.optr d b s i (some f)) = (H d).bind fun k => if k.b = b ∧ k.s = s ∧ sz = none then (k.xs[i]?).bind (fldv f) else none := by
  simp only [ldv]
  congr
theorem ldv_n (H : Hp) (sz : Option Nat) (d b s i : Nat) : ldv H sz (.optr d b s i none) = (H d).bind fun k => if k.b = b ∧ k.s = s then (k.xs[i]?).bind fun y => if fitsz sz y = true ∧ (sz = none → s = 1) then some y else none else none := by
  simp only [ldv]
def setf (j s : Nat) (v : AV) : AV → Option AV
  | .agg fs => if j < fs.length ∧ fs.length = s then some (.agg (fs.set j v)) else none
  | _ => none
def stvR (H : Hp) (v : AV) (d b s i j : Nat) : Option Hp := stv H none v (.optr d b s i (some j))
theorem stv_f (H : Hp) (v : AV) (d b s i j : Nat) : stv H none v (.optr d b s i (some j)) = if fitsz none v = true ∧ v.sz = 1 then (H d).bind fun k0 => if k0.row = true then stvR H v d b s i j else
    if k0.b = b ∧ k0.s = s ∧ k0.fz = false then ((k0.xs[i]?).bind (setf j s v)).map fun y => updH H d (some { k0 with xs := k0.xs.set i y }) else none else none := by
  by_cases hc : fitsz none v = true ∧ v.sz = 1
  · rw [if_pos hc]
    cases hH : H d with
    | none => simp [stv, hH]
    | some k0 =>
      simp only [Option.bind_some]
      by_cases hr : k0.row = true
      · rw [if_pos hr, stvR]
      · rw [if_neg hr]
        simp only [stv]
        rw [if_pos ⟨by simp, hc.1, fun _ => hc.2⟩, hH]
        simp only [Option.bind_some, if_neg hr, hH]
        by_cases hb : k0.b = b ∧ k0.s = s ∧ k0.fz = false
        · rw [if_pos hb, if_pos hb]
          cases k0.xs[i]? with
          | none => rfl
          | some y =>
            cases y <;> simp [setf]
        · rw [if_neg hb, if_neg hb]
  · rw [if_neg hc]
    simp only [stv]
    rw [if_neg]
    exact fun h => hc ⟨h.2.1, by simpa using h.2.2⟩
def stvS (H : Hp) (m : Nat) (v : AV) (d b s i : Nat) : Option Hp := stv H (some m) v (.optr d b s i none)
theorem stv_a (H : Hp) (m : Nat) (fs : List AV) (d b s i : Nat) : stv H (some m) (.agg fs) (.optr d b s i none) = (H d).bind fun k0 => if k0.row = true then stvS H m (.agg fs) d b s i else
    if k0.b = b ∧ k0.s = s ∧ k0.fz = false ∧ i < k0.xs.length ∧ fs.length = m ∧ fs.length = s then some (updH H d (some { k0 with xs := k0.xs.set i (.agg fs) })) else none := by
  cases hH : H d with
  | none => simp [stv, hH]
  | some k0 =>
    simp only [Option.bind_some]
    by_cases hr : k0.row = true
    · rw [if_pos hr, stvS]
    · rw [if_neg hr]
      simp only [stv, hH]
      by_cases hm : fs.length = m
      · rw [if_pos ⟨by simp, by simp [fitsz, hm], by simp⟩]
        simp only [Option.bind_some, if_neg hr, hH]
        by_cases hb : k0.b = b ∧ k0.s = s ∧ k0.fz = false
        · rw [if_pos hb]
          by_cases hi : i < k0.xs.length
          · rw [List.getElem?_eq_getElem hi]
            simp only [Option.bind_some, AV.sz]
            by_cases hs : fs.length = s
            · subst hs
              simp [hb, hi, hm]
            · simp [hs]
          · rw [List.getElem?_eq_none (by omega)]
            simp [hi]
        · rw [if_neg hb, if_neg (fun h => hb ⟨h.1, h.2.1, h.2.2.1⟩)]
      · rw [if_neg (fun h => hm (by simpa [fitsz] using h.2.1))]
        by_cases hb : k0.b = b ∧ k0.s = s ∧ k0.fz = false ∧ i < k0.xs.length ∧ fs.length = m ∧ fs.length = s
        · exact absurd hb.2.2.2.2.1 hm
        · rw [if_neg hb]
theorem stv_n (H : Hp) (sz : Option Nat) (v : AV) (d b s i : Nat) (xs : List AV) (ex : Bool) (hH : H d = some ⟨b, s, xs, false, false, ex⟩) (hv : fitsz sz v = true ∧ (sz = none → v.sz = 1)) (hs : v.sz = s) (hi : i < xs.length) :
    stv H sz v (.optr d b s i none) = some (updH H d (some ⟨b, s, xs.set i v, false, false, ex⟩)) := by
  simp only [stv]
  rw [if_pos ⟨by simp, hv.1, hv.2⟩, hH]
  simp only [Option.bind_some, Bool.false_eq_true, if_false, hH]
  simp [hs, hi]
/-- a row of structs: all of one element is written -/
theorem st_agg {H : Hp} {d b s i : Nat} {xs : List AV} {row ex : Bool} {fs : List AV} (hH : H d = some ⟨b, s, xs, false, row, ex⟩) (hi : i < xs.length) (hl : fs.length = s) (h4 : solo H (.agg fs) = some (.agg fs, H)) :
    stv H (some s) (.agg fs) (.optr d b s i none) = some (updH H d (some ⟨b, s, xs.set i (.agg fs), false, row, ex⟩)) := by
  simp only [stv]
  rw [if_pos ⟨by simp, by simp [fitsz, hl], by simp⟩, hH]
  cases row <;> simp only [Option.bind_some, Bool.false_eq_true, if_false, if_true, h4, hH] <;> simp [AV.sz, hl, hi]
mutual
/-- the blocks of its rows -/
def tags : AV → List Nat
  | .lsl (some (b, _)) _ xs => b :: tagsL xs
  | .lsl none _ xs => tagsL xs
  | .agg fs => tagsL fs
  | .tup fs => tagsL fs
  | _ => []
def tagsL : List AV → List Nat
  | [] => []
  | x :: xs => tags x ++ tagsL xs
end
theorem tagsL_app (xs ys : List AV) : tagsL (xs ++ ys) = tagsL xs ++ tagsL ys := by
  induction xs with
  | nil => rfl
  | cons x xs ih => simp [tagsL, ih]
theorem tagsL_none {xs : List AV} (h : ∀ x ∈ xs, tags x = []) : tagsL xs = [] := by
  induction xs with
  | nil => rfl
  | cons x xs ih => simp [tagsL, h x List.mem_cons_self, ih fun y hy => h y (List.mem_cons_of_mem _ hy)]
theorem tagsL_strs (xs : List ByteArray) : tagsL (xs.map .str) = [] := tagsL_none fun x hx => by
  obtain ⟨s, _, rfl⟩ := List.mem_map.1 hx
  rfl
/-- its rows' blocks: each its own, and new -/
def Tin (lo hi : Nat) (l : List Nat) : Prop := l.Nodup ∧ ∀ b ∈ l, lo ≤ b ∧ b < hi
theorem Tin.nil {lo hi : Nat} : Tin lo hi [] := ⟨List.nodup_nil, by simp⟩
theorem Tin.mono {lo hi lo' hi' : Nat} {l : List Nat} (h : Tin lo hi l) (h1 : lo' ≤ lo) (h2 : hi ≤ hi') : Tin lo' hi' l := ⟨h.1, fun b hb => by have := h.2 b hb; omega⟩
theorem Tin.app {lo mid mid' hi : Nat} {l l' : List Nat} (h : Tin lo mid l) (h' : Tin mid' hi l') (hm : mid ≤ mid') (h1 : lo ≤ mid') (h2 : mid ≤ hi) : Tin lo hi (l ++ l') := by
  refine ⟨List.nodup_append.2 ⟨h.1, h'.1, fun a ha b hb e => ?_⟩, fun b hb => ?_⟩
  · have g1 := h.2 a ha
    have g2 := h'.2 b hb
    omega
  · rcases List.mem_append.1 hb with hb | hb
    · have := h.2 b hb; omega
    · have := h'.2 b hb; omega
theorem Tin.cons {lo hi b : Nat} {l : List Nat} (h : Tin lo hi l) (hb : b ∉ l) (h1 : lo ≤ b) (h2 : b < hi) : Tin lo hi (b :: l) :=
  ⟨List.nodup_cons.2 ⟨hb, h.1⟩, fun c hc => by
    rcases List.mem_cons.1 hc with rfl | hc
    · exact ⟨h1, h2⟩
    · exact h.2 c hc⟩
end Go.AVM
