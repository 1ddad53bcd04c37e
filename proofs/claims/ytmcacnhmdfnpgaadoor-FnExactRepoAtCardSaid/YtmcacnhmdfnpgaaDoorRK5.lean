/- The size of a list in a struct that is handed in. -/
import Derived.Test.YtmcacnhmdfnpgaaDoorRK4
set_option linter.unusedSimpArgs false
set_option linter.unusedVariables false
namespace Go.AVM
theorem fld_size {P : Program} {H : Type} {enc : TypeId × Value → H} {ts : List TypeId} {ds : List (DataW H)} (hz : (DataW.weightsEach P ts ds).all (· ≤ reachBytes) = true) {j : Nat} {t e : TypeId} {w : World} {S : Nat → Prop} {base : Nat} {spare : Nat → Bool} {held : Bool} {n : Nat} {ys : List AV} {y2 : AV} {v : Value} {d : DataW H} {ps : List MemPlace} {gs : Array Field} {g0 : Field}
    (ht : ts[j]? = some t) (hd : ds[j]? = some d) (hu : P.underlying t = some (.struct gs)) (hg : gs[0]? = some g0) (ho : g0.offset = 0) (hc : P.cellsOf g0.type = 1) (hu0 : P.underlying g0.type = some (.slice e)) (hb : 0 < P.bytesOf e) (h : DataW.Trod enc P w base spare held t v d ps) (hr : RV w S (.agg [.lsl none n ys, y2]) v) : n ≤ 140737488355328 := by
  obtain ⟨fuel, h⟩ := h
  obtain ⟨cs, rfl, hl, _, hcs⟩ := hr.agg_inv
  obtain ⟨xs, m, _, hx, _, hxl, hel⟩ := DataW.trod_struct hu h
  have h1 := hel 0 g0 hg
  rw [ho, hc] at h1
  have hsz : 0 < cs.size := by
    rw [← hl]
    simp
  have hc0 : cs[0]? = some cs[0] := Array.getElem?_eq_getElem hsz
  have h2 := hcs 0 _ cs[0] rfl hc0
  have h3 : RV w S (.lsl none n ys) cs[0] := h2
  obtain ⟨a, cap, s, cells, e1, _⟩ := h3.lsl_inv
  have h4 : ((Value.agg cs).cells.toList.drop 0).take 1 = [cs[0]] := by
    have hne : 0 < cs.toList.length := by simpa using hsz
    simp only [Value.cells, List.drop_zero]
    rw [show cs.toList = cs[0] :: cs.toList.drop 1 from by
      have := List.drop_eq_getElem_cons (l := cs.toList) (i := 0) hne
      simpa using this]
    rfl
  rw [h4, e1] at h1
  have hxs : 0 < xs.length := by
    rw [hxl]
    exact (Array.getElem?_eq_some_iff.1 hg).1
  have hx0 : xs[0]? = some xs[0] := List.getElem?_eq_getElem hxs
  rw [hx0] at h1
  have hd' : d = .agg (xs.map (·.1)) := congrArg Prod.fst hx
  subst hd'
  rcases DataW.trod_slice hu0 h1 with ⟨q1, _⟩ | ⟨a', len, cap', elems, rest, m, _, q1, q2, _, _, _, ql, _⟩
  · simp at q1
    omega
  · have h5 : n = len := by
      simp at q1
      exact q1.2.1
    have h6 : (xs.map (·.1))[0]? = some (.slice (elems.map (·.1)) (rest.map (·.1))) := by
      rw [List.getElem?_map, hx0]
      exact congrArg some (congrArg Prod.fst q2)
    have h7 : (gs.toList.map (·.type))[0]? = some g0.type := by
      rw [List.getElem?_map]
      have : gs.toList[0]? = some g0 := by simpa using hg
      rw [this]
      rfl
    have h8 := DataW.weights_mem_each (P := P) h7 h6 ((elems.length + rest.length) * P.bytesOf e) (by simp [DataW.weights, hu0])
    have h9 := DataW.weights_mem_each (P := P) ht hd ((elems.length + rest.length) * P.bytesOf e) (by
      simp only [DataW.weights, hu]
      exact h8)
    have h10 := List.all_eq_true.1 hz _ h9
    have h11 := reachBytes_lt
    have h12 := Nat.le_mul_of_pos_right (elems.length + rest.length) hb
    simp only [decide_eq_true_eq] at h10
    omega
end Go.AVM
