import Derived.Test.YtjbniljmgnmdnaaFA3
import Derived.SliceStrings
namespace Go.AVM
set_option linter.unusedSimpArgs false
open Go.RowKit
theorem cell_spot {w : World} {a : Addr} {v : Value} (h : w.cell? a = some v) : a.spot = none ∧ a.block < w.heap.size := by
  unfold World.cell? at h
  split at h
  · rename_i he
    split at h
    · cases h
    · rename_i hs
      refine ⟨by simpa using hs, ?_⟩
      exact (Array.getElem?_eq_some_iff.1 he).1
  · cases h
theorem rv_strs {w : World} {a : Addr} {len cap : Nat} {ss : List ByteArray} (hl : len ≤ cap) (hm : cap ≤ maxLen) (hz : ss.length = cap)
    (hcell : ∀ i, i < ss.length → w.cell? (a.add i) = some (.string (ss.getD i ByteArray.empty))) :
    RV w (fun b => b < w.heap.size) (strs (ss.take len)) (.slice (some a) len cap) := by
  have hlen : (ss.take len).length = len := by simp; omega
  have : RC w (fun b => b < w.heap.size) (.lsl none len ((ss.take len).map .str)) [.slice (some a) len cap] := by
    refine RC.lsl none len cap 1 _ _ (fun i => [.string (ss.getD i ByteArray.empty)]) hl (by simp; omega) (by simp; omega) hm (fun hne => ?_) (by simp) (fun i x hx => ?_)
    · have hpos : 0 < ss.length := by
        cases ss with
        | nil => simp at hne
        | cons _ _ => simp
      obtain ⟨hs, hb⟩ := cell_spot (hcell 0 hpos)
      have h0 : a.add 0 = a := by simp [Addr.add]
      rw [h0] at hs hb
      refine ⟨a.block, a.off, by cases a; simp_all, hb, fun i x hx => ⟨rfl, fun j v hv => ?_⟩⟩
      have hi : i < ss.length := by
        have := (List.getElem?_eq_some_iff.1 hx).1
        simp at this
        omega
      have hc := hcell i hi
      cases j with
      | zero =>
        simp at hv
        subst hv
        have e : a.add i = ⟨a.block, a.off + i * 1 + 0, none⟩ := by
          cases a
          simp only at hs
          subst hs
          simp [Addr.add]
        rw [e] at hc
        simpa using hc
      | succ j => simp at hv
    · rw [List.getElem?_map] at hx
      obtain ⟨s, hs, rfl⟩ := Option.map_eq_some_iff.1 hx
      have : ss.getD i ByteArray.empty = s := by
        rw [List.getElem?_take] at hs
        split at hs
        · simp [List.getD_eq_getElem?_getD, hs]
        · cases hs
      simp only [this]
      exact RC.str s
  have h2 := this.rv rfl
  simp only [strs, hlen]
  exact h2
theorem rv_nil {w : World} {T : Nat → Prop} : RV w T (strs []) (.slice none 0 0) :=
  (RC.lsl none 0 0 1 [] none (fun _ => []) (Nat.le_refl _) (Nat.le_refl _) (Nat.le_refl _) (Nat.zero_le _) (by simp) (by simp) (by simp)).rv rfl
end Go.AVM
