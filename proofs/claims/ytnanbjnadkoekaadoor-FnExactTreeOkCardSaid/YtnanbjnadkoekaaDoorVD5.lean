/- Appends. -/
import Derived.Test.YtnanbjnadkoekaaDoorVD4
namespace Go.AVM
set_option linter.unusedSimpArgs false
open Go.RowKit
set_option linter.unusedVariables false
section
variable {P : Program} {w0 w : World} {S : Sg} {nt n : Nat} {E : Env} {H : Hp} {a : Act} {o : Oper}

/-- what a slice's first cells are, in this world and behind a draw -/
def Firsts (P : Program) (w : World) (size m : Nat) (x : Value) (news : List Value) : Prop :=
  (Builtin.firstCells size m x).run P w = .ok news.toArray w ∧ (Builtin.firstCells size m x).run P w.drew = .ok news.toArray w.drew

theorem firsts_of {size m c : Nat} {ad : Option Addr} {news : List Value} (hl : news.length = m * size) (h : news ≠ [] → ∃ g off, ad = some ⟨g, off, none⟩ ∧ ∀ (j : Nat) (v : Value), news[j]? = some v → w.cell? ⟨g, off + j, none⟩ = some v) : Firsts P w size m (.slice ad m c) news := by
  by_cases hn : news = []
  · subst hn
    have h0 : m * size = 0 := by simpa using hl.symm
    cases ad with
    | none => exact ⟨by simp [Builtin.firstCells], by simp [Builtin.firstCells]⟩
    | some a => exact ⟨by simp [Builtin.firstCells, loadCells, loadCellsFrom, h0], by simp [Builtin.firstCells, loadCells, loadCellsFrom, h0]⟩
  · obtain ⟨g, off, rfl, hc⟩ := h hn
    have hc' : ∀ (j : Nat) (v : Value), news[j]? = some v → w.cell? ((⟨g, off, none⟩ : Addr).add j) = some v := fun j v hj => by rw [add_none]; exact hc j v hj
    refine ⟨run_firstCells_some (P := P) w size m _ m c news hl hc', run_firstCells_some (P := P) w.drew size m _ m c news hl (fun j v hj => ?_)⟩
    have := hc' j v hj
    exact this

theorem append_room {t ty e : TypeId} {ti : TypeInfo} (ht : P.underlying t = some (.slice e)) (hi : P.info? e = some ti) {g sLen sCap m c : Nat} {ad : Option Addr} {cur : Array Value} {e' : TypeId} {news : List Value}
    (hg : w.heap[g]? = some (.cells cur e' (0, 0))) (hl : news.length = m * ti.size) (hf : Firsts P w ti.size m (.slice ad m c) news) (h1 : ∀ u ∈ news, u.oneCell' = true) (hroom : sLen + m ≤ sCap) (hfit : sLen * ti.size + news.length ≤ cur.size) :
    (Builtin.append_ #[t, t] ty #[.slice (some ⟨g, 0, none⟩) sLen sCap, .slice ad m c]).run P w =
      .ok (.slice (some ⟨g, 0, none⟩) (sLen + m) sCap) (w.setRow g (cur.toList.take (sLen * ti.size) ++ news ++ cur.toList.drop (sLen * ti.size + news.length)).toArray) := by
  have hst := run_storeCells_at P g (sLen * ti.size) e' news 0 cur w hg (by simpa using hfit) h1
  simp only [Nat.add_zero] at hst
  simp [Builtin.append_, run_underlying ht, sizeOf, typeInfo, hi, Builtin.lenOf, hroom, hf.1, add_none, hst]

theorem append_grow {t ty e : TypeId} {ti : TypeInfo} {z : Value} (ht : P.underlying t = some (.slice e)) (hi : P.info? e = some ti) (hz : ti.zero = some z) {sLen sCap m c : Nat} {bd ad : Option Addr} {olds news : List Value}
    (ho : Firsts P w ti.size sLen (.slice bd sLen sCap) olds) (hf : Firsts P w ti.size m (.slice ad m c) news) (hg : sCap < sLen + m) (h63 : ((sLen + m : Nat) : Int) ≤ 9223372036854775807) (hfit : (sLen + m) * ti.bytes ≤ 140737488355328) :
    (Builtin.append_ #[t, t] ty #[.slice bd sLen sCap, .slice ad m c]).run P w =
      .ok (.slice (some ⟨w.heap.size, 0, none⟩) (sLen + m) (grownCap w (sLen + m) sCap e))
        (w.drew.alloc (.cells (olds.toArray ++ news.toArray ++ Builtin.zeroCells z.cells (grownCap w (sLen + m) sCap e - (sLen + m))) e)) := by
  have hn : ¬ (sLen + m ≤ sCap) := by omega
  have h63' : ¬ (9223372036854775807 < ((sLen : Int) + (m : Int))) := by omega
  have h48 := growslice_fits hg hfit
  have h48' : ¬ (281474976710656 < Builtin.nextslicecap (sLen + m) sCap * ti.bytes) := by omega
  simp [Builtin.append_, run_underlying ht, sizeOf, typeInfo, zeroValue, hi, hz, Builtin.lenOf, hn, h63', h48', Question.forced, hf.2, ho.2, newRow, grownCap]
  congr 2
  apply Array.ext'
  simp [List.append_assoc]

/-- The elements of a row that is read, cell behind cell. -/
theorem flat_row {T : Nat → Prop} {s : Nat} : ∀ (ys : List AV) (cells : Nat → List Value), (∀ (i : Nat) (x : AV), ys[i]? = some x → (cells i).length = s ∧ RC w T x (cells i)) →
    ∃ news : List Value, news.length = ys.length * s ∧ (∀ (i j : Nat) (x : AV) (v : Value), ys[i]? = some x → (cells i)[j]? = some v → news[i * s + j]? = some v) ∧ (∀ u ∈ news, u.oneCell' = true) ∧
      ∀ q u, news[q]? = some u → ∃ (i j : Nat) (x : AV), ys[i]? = some x ∧ (cells i)[j]? = some u ∧ q = i * s + j
  | [], cells, _ => ⟨[], by simp, by simp, by simp, by simp⟩
  | y :: ys, cells, h => by
    obtain ⟨news, hl, h1, h2, h3⟩ := flat_row ys (fun i => cells (i + 1)) (fun i x hi => h (i + 1) x (by simpa using hi))
    obtain ⟨hy1, hy2⟩ := h 0 y rfl
    refine ⟨cells 0 ++ news, by simp [hy1, hl, Nat.add_mul]; omega, fun i j x v hi hj => ?_, fun u hu => ?_, fun q u hq => ?_⟩
    · cases i with
      | zero =>
        have hlt := (List.getElem?_eq_some_iff.1 hj).1
        rw [Nat.zero_mul, Nat.zero_add, List.getElem?_append_left hlt]
        exact hj
      | succ i =>
        rw [List.getElem?_append_right (by rw [hy1, Nat.add_mul]; omega), hy1, show (i + 1) * s + j - s = i * s + j by rw [Nat.add_mul, Nat.one_mul]; omega]
        exact h1 i j x v (by simpa using hi) hj
    · rcases List.mem_append.1 hu with hu | hu
      · exact hy2.one u hu
      · exact h2 u hu
    · rcases Nat.lt_or_ge q (cells 0).length with hlt | hge
      · rw [List.getElem?_append_left hlt] at hq
        exact ⟨0, q, y, rfl, hq, by simp⟩
      · rw [List.getElem?_append_right hge] at hq
        obtain ⟨i, j, x, hi, hj, he⟩ := h3 _ u hq
        exact ⟨i + 1, j, x, by simpa using hi, hj, by rw [Nat.add_mul, Nat.one_mul]; omega⟩

theorem src_ok {y : Opd} {x2 : Operand} {s : Nat} {C : List AV → Prop} (h : SR w0 S nt E H n a w) (hm : mOpd nt x2 y = true) (hs0 : 0 < s) (hc : srcOf E H y C) (hsz : ∀ ys, C ys → ∀ z ∈ ys, z.sz = s) :
    ∃ ys ad m c, ∃ cells : Nat → List Value, ∃ news : List Value, C ys ∧ a.eval x2 = .slice ad m c ∧ m = ys.length ∧ (∀ (i : Nat) (x : AV), ys[i]? = some x → (cells i).length = s ∧ RC w (Stb w0 S H w) x (cells i)) ∧
      news.length = ys.length * s ∧ (∀ (i j : Nat) (x : AV) (v : Value), ys[i]? = some x → (cells i)[j]? = some v → news[i * s + j]? = some v) ∧ (∀ u ∈ news, u.oneCell' = true) ∧ Firsts P w s m (.slice ad m c) news := by
  have hv := h.rel.ev hm
  unfold srcOf at hc
  -- a row that is read at g, off
  have fin : ∀ (ys : List AV) (ad : Option Addr) (c : Nat) (cells : Nat → List Value), C ys → a.eval x2 = .slice ad ys.length c → (∀ (i : Nat) (x : AV), ys[i]? = some x → (cells i).length = s ∧ RC w (Stb w0 S H w) x (cells i)) →
      (ys ≠ [] → ∃ g off, ad = some ⟨g, off, none⟩ ∧ ∀ (i : Nat) (x : AV), ys[i]? = some x → ∀ (j : Nat) (v : Value), (cells i)[j]? = some v → w.cell? ⟨g, off + i * s + j, none⟩ = some v) →
      ∃ ys ad m c, ∃ cells : Nat → List Value, ∃ news : List Value, C ys ∧ a.eval x2 = .slice ad m c ∧ m = ys.length ∧ (∀ (i : Nat) (x : AV), ys[i]? = some x → (cells i).length = s ∧ RC w (Stb w0 S H w) x (cells i)) ∧
      news.length = ys.length * s ∧ (∀ (i j : Nat) (x : AV) (v : Value), ys[i]? = some x → (cells i)[j]? = some v → news[i * s + j]? = some v) ∧ (∀ u ∈ news, u.oneCell' = true) ∧ Firsts P w s m (.slice ad m c) news := by
    intro ys ad c cells hC hav hcl hat
    obtain ⟨news, hl, h1, h2, h3⟩ := flat_row ys cells hcl
    refine ⟨ys, ad, ys.length, c, cells, news, hC, hav, rfl, hcl, hl, h1, h2, firsts_of hl fun hne => ?_⟩
    have hne' : ys ≠ [] := by
      rintro rfl
      exact hne (List.eq_nil_of_length_eq_zero (by simpa using hl))
    obtain ⟨g, off, rfl, hc⟩ := hat hne'
    refine ⟨g, off, rfl, fun q u hq => ?_⟩
    obtain ⟨i, j, x, hi, hj, rfl⟩ := h3 q u hq
    rw [← Nat.add_assoc]
    exact hc i x hi j u hj
  generalize hey : ev E y = vy at *
  cases vy <;> first | (exact hc.elim) | skip
  · obtain ⟨ad, hav⟩ := hv.emp_inv
    exact fin [] ad 0 (fun _ => []) hc hav (by simp) (by simp)
  · rename_i tg m xs
    obtain ⟨hml, hC⟩ := hc
    obtain ⟨ad, cap, s', cells, hav, hlc, hll, hxc, hmx, hne, ht, hrc⟩ := hv.lsl_inv
    have hmin : (xs.take m).length = m := by simp; omega
    have hget : ∀ (i : Nat) (x : AV), (xs.take m)[i]? = some x → xs[i]? = some x := fun i x hi => by
      rw [List.getElem?_take] at hi
      split at hi
      · exact hi
      · cases hi
    have hcl : ∀ (i : Nat) (x : AV), (xs.take m)[i]? = some x → (cells i).length = s ∧ RC w (Stb w0 S H w) x (cells i) := fun i x hi => by
      have hz := hsz _ hC x (List.mem_of_getElem? hi)
      have hr := hrc i x (hget i x hi)
      exact ⟨by rw [hr.len (by omega)]; exact hz, hr⟩
    refine fin (xs.take m) ad cap cells hC (by rw [hmin]; exact hav) hcl (fun hne' => ?_)
    have hxne : xs ≠ [] := by rintro rfl; simp at hne'
    obtain ⟨g, off, rfl, hT, hcc⟩ := hne hxne
    have hss : s' = s := by
      obtain ⟨x0, xs0, hx0⟩ := List.exists_cons_of_ne_nil hne'
      have h0 : (xs.take m)[0]? = some x0 := by rw [hx0]; rfl
      have := (hcl 0 x0 h0).1
      have := (hcc 0 x0 (hget 0 x0 h0)).1
      omega
    subst hss
    exact ⟨g, off, rfl, fun i x hi j v hj => (hcc i x (hget i x hi)).2 j v hj⟩
  · rename_i d' b s' m
    obtain ⟨k, hk, rfl, rfl, hml, hC⟩ := hc
    obtain ⟨cap, hav, _⟩ := hv.own_inv
    obtain ⟨hlow, hpos, c, e, hh, hlen, _, hall⟩ := h.blk d' k hk
    have hmin : (k.xs.take m).length = m := by simp; omega
    have hget : ∀ (i : Nat) (x : AV), (k.xs.take m)[i]? = some x → k.xs[i]? = some x := fun i x hi => by
      rw [List.getElem?_take] at hi
      split at hi
      · exact hi
      · cases hi
    let cells : Nat → List Value := fun i => (c.toList.drop (i * k.s)).take k.s
    have hcell : ∀ (i : Nat) (x : AV), k.xs[i]? = some x → (cells i).length = k.s ∧ RC w (Stb w0 S H w) x (cells i) := by
      intro i x hi
      obtain ⟨cs, h3, h4, h5⟩ := hall i x hi
      have : cells i = cs := by
        apply List.ext_getElem?
        intro j
        simp only [cells, List.getElem?_take, List.getElem?_drop]
        by_cases hj : j < k.s
        · rw [if_pos hj]
          have hj' : j < cs.length := by omega
          have := h5 j cs[j] (List.getElem?_eq_getElem hj')
          rw [List.getElem?_eq_getElem hj', ← this]
          simp
        · rw [if_neg hj, List.getElem?_eq_none (by omega)]
      rw [this]
      exact ⟨h3, h4⟩
    have hcl : ∀ (i : Nat) (x : AV), (k.xs.take m)[i]? = some x → (cells i).length = s ∧ RC w (Stb w0 S H w) x (cells i) := fun i x hi => by
      obtain ⟨g1, g2⟩ := hcell i x (hget i x hi)
      have hz := hsz _ hC x (List.mem_of_getElem? hi)
      exact ⟨by rw [g2.len (by omega)]; exact hz, g2⟩
    refine fin (k.xs.take m) _ cap cells hC (by rw [hmin]; exact hav) hcl (fun hne' => ⟨k.b, 0, rfl, fun i x hi j v hj => ?_⟩)
    have hss : k.s = s := by
      have := (hcl i x hi).1
      have := (hcell i x (hget i x hi)).1
      omega
    simp only [cells, List.getElem?_take, List.getElem?_drop] at hj
    split at hj <;> first | (cases hj; done) | skip
    simp only [World.cell?, hh, Nat.zero_add, ← hss]
    simpa using hj
end
end Go.AVM
