/- How the abstract machine's values stand for the real machine's: the relation, how it lasts while memory grows, and what the checker asks of an operation. -/
import Derived.Test.YtnanbjnadkoekaaDoorVA
import Derived.Laws.MakeOwn
import Derived.Laws.OwnMore
import Derived.Laws.Entries
import Derived.Laws.Cells
import Derived.Laws.Sem
namespace Go.AVM
set_option linter.unusedSimpArgs false
open Go.RowKit
set_option linter.unusedVariables false

/-- What the cells cs hold is what x says, in the world w, all rows inside lying in blocks of T. -/
inductive RC (w : World) (T : Nat → Prop) : AV → List Value → Prop
  | undef (cs : List Value) (h : ∀ u ∈ cs, u.oneCell' = true) : RC w T .undef cs
  | bool (b : Bool) : RC w T (.bool b) [.bool b]
  | int (k : IntKind) (n : Int) : RC w T (.int k n) [.int k n]
  | str (s : ByteArray) : RC w T (.str s) [.string s]
  | agg (fs : List AV) (cs : List Value) (hl : fs.length = cs.length) (hn : ∀ f ∈ fs, f.isAgg = false) (h : ∀ (i : Nat) (f : AV) (c : Value), fs[i]? = some f → cs[i]? = some c → RC w T f [c]) : RC w T (.agg fs) cs
  | emp (a : Option Addr) : RC w T .emp [.slice a 0 0]
  | lsl (t : Option (Nat × Nat)) (len cap s : Nat) (xs : List AV) (a : Option Addr) (cells : Nat → List Value) (h1 : len ≤ cap) (h2 : len ≤ xs.length) (h3 : xs.length ≤ cap) (hm : cap ≤ maxLen)
      (hne : xs ≠ [] → ∃ (g off : Nat), a = some ⟨g, off, none⟩ ∧ T g ∧ ∀ (i : Nat) (x : AV), xs[i]? = some x → (cells i).length = s ∧ ∀ (j : Nat) (v : Value), (cells i)[j]? = some v → w.cell? ⟨g, off + i * s + j, none⟩ = some v)
      (ht : ∀ (b s' : Nat), t = some (b, s') → s' = s ∧ T b ∧ a = some ⟨b, 0, none⟩ ∧ ∃ (c : Array Value) (e : TypeId), w.heap[b]? = some (.cells c e (0, 0)) ∧ c.size = cap * s)
      (h : ∀ (i : Nat) (x : AV), xs[i]? = some x → RC w T x (cells i)) : RC w T (.lsl t len xs) [.slice a len cap]
  | own (d b s len cap : Nat) (hl : len ≤ cap) (hm : cap ≤ maxLen) (h : ∃ (c : Array Value) (e : TypeId), w.heap[b]? = some (.cells c e (0, 0)) ∧ c.size = cap * s) : RC w T (.own d b s len) [.slice (some ⟨b, 0, none⟩) len cap]
  | lptr (x : AV) (cs : List Value) (g off : Nat) (hT : T g) (hs : cs.length = x.sz) (hc : ∀ (j : Nat) (v : Value), cs[j]? = some v → w.cell? ⟨g, off + j, none⟩ = some v) (h : RC w T x cs) : RC w T (.lptr x) [.pointer (some ⟨g, off, none⟩)]
  | optr (d b s i : Nat) (f : Option Nat) : RC w T (.optr d b s i f) [.pointer (some ⟨b, i * s + f.getD 0, none⟩)]
  | fn (f : FuncId) (cap : List AV) (cs : List Value) (hl : cap.length = cs.length) (hn : ∀ f ∈ cap, f.isAgg = false) (h : ∀ (i : Nat) (x : AV) (c : Value), cap[i]? = some x → cs[i]? = some c → RC w T x [c]) : RC w T (.fn f cap) [.func (.func f) #[] cs.toArray]

theorem RC.one {w : World} {T : Nat → Prop} {x : AV} {cs : List Value} (h : RC w T x cs) : ∀ u ∈ cs, u.oneCell' = true := by
  induction h with
  | undef cs h => exact h
  | agg fs cs hl hn h ih =>
    intro u hu
    obtain ⟨i, hi⟩ := List.mem_iff_getElem?.1 hu
    have hlt : i < fs.length := by
      rw [hl]
      exact (List.getElem?_eq_some_iff.1 hi).1
    exact ih i fs[i] u (List.getElem?_eq_getElem hlt) hi u (List.mem_singleton.2 rfl)
  | _ => intro u hu; rw [List.mem_singleton.1 hu]; rfl

theorem RC.len {w : World} {T : Nat → Prop} {x : AV} {cs : List Value} (h : RC w T x cs) (hz : x.sz ≠ 0) : cs.length = x.sz := by
  cases h <;> simp_all [AV.sz]

theorem RC.len1 {w : World} {T : Nat → Prop} {x : AV} {cs : List Value} (h : RC w T x cs) (hz : x.sz = 1) : ∃ u, cs = [u] ∧ u.oneCell' = true ∧ (∀ c, u ≠ .agg c) := by
  have hl := h.len (by omega)
  rw [hz] at hl
  obtain ⟨u, rfl⟩ := List.length_eq_one_iff.1 hl
  refine ⟨u, rfl, h.one u (List.mem_singleton.2 rfl), ?_⟩
  rintro c rfl
  have := h.one _ (List.mem_singleton.2 rfl)
  simp [Value.oneCell'] at this

/-- The world has gone on: T's blocks are as they were, every row of cells has the length that it had. -/
structure On (w w' : World) (T T' : Nat → Prop) : Prop where
  keep : ∀ g, T g → T' g ∧ w'.heap[g]? = w.heap[g]?
  shape : ∀ (g : Nat) (c : Array Value) (e : TypeId), w.heap[g]? = some (.cells c e (0, 0)) → ∃ c' : Array Value, w'.heap[g]? = some (.cells c' e (0, 0)) ∧ c'.size = c.size

theorem cell_of {w w' : World} {g o : Nat} (h : w'.heap[g]? = w.heap[g]?) : w'.cell? ⟨g, o, none⟩ = w.cell? ⟨g, o, none⟩ := World.cell?_of_block (w := w) h

theorem RC.mono {w w' : World} {T T' : Nat → Prop} (hon : On w w' T T') {x : AV} {cs : List Value} (h : RC w T x cs) : RC w' T' x cs := by
  induction h with
  | undef cs h => exact .undef cs h
  | bool b => exact .bool b
  | int k n => exact .int k n
  | str s => exact .str s
  | agg fs cs hl hn h ih => exact .agg fs cs hl hn ih
  | emp a => exact .emp a
  | lsl t len cap s xs a cells h1 h2 h3 hm hne ht h ih =>
    refine .lsl t len cap s xs a cells h1 h2 h3 hm (fun hx => ?_) (fun b s' hb => ?_) ih
    · obtain ⟨g, off, ha, hT, hc⟩ := hne hx
      obtain ⟨hT', hh⟩ := hon.keep g hT
      refine ⟨g, off, ha, hT', fun i x hi => ⟨(hc i x hi).1, fun j v hj => ?_⟩⟩
      rw [cell_of hh]
      exact (hc i x hi).2 j v hj
    · obtain ⟨e1, hT, ha, c, e, hh, hs⟩ := ht b s' hb
      obtain ⟨hT', hh'⟩ := hon.keep b hT
      exact ⟨e1, hT', ha, c, e, hh'.trans hh, hs⟩
  | own d b s len cap hl hm h =>
    obtain ⟨c, e, hh, hs⟩ := h
    obtain ⟨c', hh', hs'⟩ := hon.shape b c e hh
    exact .own d b s len cap hl hm ⟨c', e, hh', hs'.trans hs⟩
  | lptr x cs g off hT hs hc h ih =>
    obtain ⟨hT', hh⟩ := hon.keep g hT
    refine .lptr x cs g off hT' hs (fun j v hj => ?_) ih
    rw [cell_of hh]
    exact hc j v hj
  | optr d b s i f => exact .optr d b s i f
  | fn f cap cs hl hn h ih => exact .fn f cap cs hl hn ih

theorem On.of_below {w w' : World} {T : Nat → Prop} (hT : ∀ g, T g → g < w.heap.size) (hb : Below w.heap.size w w') : On w w' T T :=
  ⟨fun g hg => ⟨hg, hb.block g (hT g hg)⟩, fun g c e hg => ⟨c, (hb.block g (Array.getElem?_eq_some_iff.1 hg).1).trans hg, rfl⟩⟩

/-- What a temporary holds is what x says. -/
def RVp (w : World) (T : Nat → Prop) : AV → Value → Prop
  | .undef, _ => True
  | .agg fs, v => ∃ cs, v = .agg cs ∧ RC w T (.agg fs) cs.toList
  | .tup _, _ => False
  | .old _ _, _ => False
  | x, v => RC w T x [v]
def RV0 (w : World) (T : Nat → Prop) : AV → Value → Prop
  | .old B x, v => RVp w (fun g => T g ∧ g < B) x v
  | .undef, _ => True
  | .agg fs, v => ∃ cs, v = .agg cs ∧ RC w T (.agg fs) cs.toList
  | .tup _, _ => False
  | x, v => RC w T x [v]
def RV (w : World) (T : Nat → Prop) : AV → Value → Prop
  | .tup vs, v => ∃ cs : Array Value, v = .tuple cs ∧ cs.size = vs.length ∧ ∀ (i : Nat) (x : AV), vs[i]? = some x → ∃ u, cs[i]? = some u ∧ RV0 w T x u
  | x, v => RV0 w T x v

theorem RVp.rv {w : World} {T : Nat → Prop} {x : AV} {v : Value} (h : RVp w T x v) : RV w T x v := by
  cases x <;> first | exact h | exact h.elim
theorem RVp.mono {w w' : World} {T T' : Nat → Prop} (hon : On w w' T T') {x : AV} {v : Value} (h : RVp w T x v) : RVp w' T' x v := by
  cases x <;> simp only [RVp] at h ⊢ <;> first | exact h.mono hon | skip
  obtain ⟨cs, e, h⟩ := h
  exact ⟨cs, e, h.mono hon⟩
theorem On.cut {w w' : World} {T T' : Nat → Prop} (hon : On w w' T T') (B : Nat) : On w w' (fun g => T g ∧ g < B) (fun g => T' g ∧ g < B) :=
  ⟨fun g hg => ⟨⟨(hon.keep g hg.1).1, hg.2⟩, (hon.keep g hg.1).2⟩, hon.shape⟩
theorem RV0.mono {w w' : World} {T T' : Nat → Prop} (hon : On w w' T T') {x : AV} {v : Value} (h : RV0 w T x v) : RV0 w' T' x v := by
  cases x <;> simp only [RV0] at h ⊢ <;> first | exact h.mono hon | skip
  · obtain ⟨cs, e, h⟩ := h
    exact ⟨cs, e, h.mono hon⟩
  · exact h.mono (hon.cut _)
theorem RV.mono {w w' : World} {T T' : Nat → Prop} (hon : On w w' T T') {x : AV} {v : Value} (h : RV w T x v) : RV w' T' x v := by
  cases x <;> simp only [RV] at h ⊢ <;> first | exact h.mono hon | skip
  obtain ⟨cs, e, hs, h⟩ := h
  exact ⟨cs, e, hs, fun i x hi => let ⟨u, hu, hr⟩ := h i x hi; ⟨u, hu, hr.mono hon⟩⟩

theorem RV.cell {w : World} {T : Nat → Prop} {x : AV} {v : Value} (h : RV w T x v) (ha : x.isAgg = false) (hz : x.sz ≠ 0) : RC w T x [v] := by
  cases x <;> simp_all [RV, RV0, AV.isAgg, AV.sz]
theorem RC.rv {w : World} {T : Nat → Prop} {x : AV} {v : Value} (h : RC w T x [v]) (ha : x.isAgg = false) : RV w T x v := by
  cases x <;> first | exact h | trivial | (simp [AV.isAgg] at ha) | cases h

/-- the cells of a value that stands in a temporary -/
theorem RV.cells {w : World} {T : Nat → Prop} {x : AV} {v : Value} (h : RV w T x v) (hz : x.sz ≠ 0) : RC w T x v.cells.toList ∧ v.cells.size = x.sz := by
  cases ha : x.isAgg with
  | true =>
    cases x <;> simp_all [AV.isAgg]
    obtain ⟨cs, rfl, h⟩ := h
    exact ⟨h, by have := h.len hz; simpa [Value.cells] using this⟩
  | false =>
    have hc := h.cell ha hz
    have hl := hc.len hz
    obtain ⟨u, hu, h1, h2⟩ := hc.len1 (by simpa using hl.symm)
    obtain rfl : v = u := by simpa using hu
    have : v.cells = #[v] := by cases v <;> simp_all [Value.cells]
    rw [this]
    exact ⟨hc, by simpa using hl⟩

/-! ### the blocks of the call's own -/
/-- what may be written: what was given for it, and what is new -/
structure Sg where
  s : Nat → Prop
  g : Nat → Prop
def Mine (w0 : World) (S : Sg) (b : Nat) : Prop := S.g b ∨ w0.heap.size ≤ b

structure BOK (w : World) (T : Nat → Prop) (B : Nat → Prop) (k : Blk) : Prop where
  low : B k.b
  pos : 0 < k.s
  has : ∃ (c : Array Value) (e : TypeId), w.heap[k.b]? = some (.cells c e (0, 0)) ∧ k.xs.length * k.s ≤ c.size ∧ (k.ex = true → c.size = k.xs.length * k.s) ∧ ∀ (i : Nat) (x : AV), k.xs[i]? = some x → ∃ cs : List Value, cs.length = k.s ∧ RC w T x cs ∧ ∀ (j : Nat) (v : Value), cs[j]? = some v → c[i * k.s + j]? = some v

/-- The blocks that stay as they are: what was given at the call's begin, what the call has made, but for what it may still write. -/
def Stb (w0 : World) (S : Sg) (H : Hp) (w : World) (b : Nat) : Prop :=
  (S.s b ∨ Mine w0 S b) ∧ b < w.heap.size ∧ ∀ d k, H d = some k → k.fz = false → k.b ≠ b

/-- How far the call's world may have gone. -/
structure Bel (w0 : World) (S : Sg) (w : World) : Prop where
  os : w.os = w0.os
  tape : w.tape = w0.tape
  output : w.output = w0.output
  size : w0.heap.size ≤ w.heap.size
  block : ∀ k, k < w0.heap.size → ¬ S.g k → w.heap[k]? = w0.heap[k]?
  shape : ∀ (g : Nat) (c : Array Value) (e : TypeId), w0.heap[g]? = some (.cells c e (0, 0)) → ∃ c' : Array Value, w.heap[g]? = some (.cells c' e (0, 0)) ∧ c'.size = c.size

theorem Bel.refl (w : World) (S : Sg) : Bel w S w := ⟨rfl, rfl, rfl, Nat.le_refl _, fun _ _ _ => rfl, fun _ c _ h => ⟨c, h, rfl⟩⟩
theorem Bel.on {w0 w w' : World} {S : Sg} (h : Bel w0 S w) (hb : Below w.heap.size w w') : Bel w0 S w' :=
  ⟨hb.os.trans h.os, hb.tape.trans h.tape, hb.output.trans h.output, Nat.le_trans h.size hb.size,
    fun k hk hn => (hb.block k (Nat.lt_of_lt_of_le hk h.size)).trans (h.block k hk hn),
    fun g c e hg => by
      obtain ⟨c', h1, h2⟩ := h.shape g c e hg
      exact ⟨c', (hb.block g (Array.getElem?_eq_some_iff.1 h1).1).trans h1, h2⟩⟩
/-- one row of its own is written -/
theorem Bel.row {w0 w w' : World} {S : Sg} (h : Bel w0 S w) {b : Nat} {c c' : Array Value} {e : TypeId} (hm : Mine w0 S b) (h1 : w'.os = w.os) (h2 : w'.tape = w.tape) (h3 : w'.output = w.output) (h4 : w.heap.size ≤ w'.heap.size)
    (hc : w.heap[b]? = some (.cells c e (0, 0))) (hc' : w'.heap[b]? = some (.cells c' e (0, 0))) (hs : c'.size = c.size) (h5 : ∀ g, g < w.heap.size → g ≠ b → w'.heap[g]? = w.heap[g]?) : Bel w0 S w' := by
  refine ⟨h1.trans h.os, h2.trans h.tape, h3.trans h.output, Nat.le_trans h.size h4, fun k hk hn => ?_, fun g c1 e1 hg => ?_⟩
  · refine (h5 k (Nat.lt_of_lt_of_le hk h.size) ?_).trans (h.block k hk hn)
    rintro rfl
    rcases hm with hm | hm
    · exact hn hm
    · omega
  · obtain ⟨c2, g1, g2⟩ := h.shape g c1 e1 hg
    by_cases hgb : g = b
    · subst hgb
      rw [hc] at g1
      injection g1 with g1
      injection g1 with g1 g3 _
      subst g1 g3
      exact ⟨c', hc', hs.trans g2⟩
    · exact ⟨c2, (h5 g (Array.getElem?_eq_some_iff.1 g1).1 hgb).trans g1, g2⟩
theorem Bel.below {w0 w : World} {S : Nat → Prop} (h : Bel w0 ⟨S, fun _ => False⟩ w) : Below w0.heap.size w0 w :=
  ⟨h.os, h.tape, h.output, h.size, fun k hk => h.block k hk id⟩

structure SR (w0 : World) (S : Sg) (nt : Nat) (E : Env) (H : Hp) (n : Nat) (a : Act) (w : World) : Prop where
  defs : a.defers = []
  size : a.tmps.size = nt
  bel : Bel w0 S w
  nle : n ≤ w.heap.size
  nge : w0.heap.size ≤ n
  tm : ∀ t, t < nt → RV w (Stb w0 S H w) (E t) (a.tmps.getD t undef)
  blk : ∀ d k, H d = some k → BOK w (Stb w0 S H w) (Mine w0 S) k
  inj : ∀ d d' k k', H d = some k → H d' = some k' → k.b = k'.b → d = d'

theorem Stb.lt {w0 : World} {S : Sg} {H : Hp} {w : World} : ∀ b, Stb w0 S H w b → b < w.heap.size := fun _ h => h.2.1

end Go.AVM
