/- The given program's TextOk gives what the reference's gives, for every list of strings: the given statement FnExactTextOkSaid, with no condition ahead of it. -/
import Derived.Test.YtjbniljmgnmdnaaRows
import Derived.Test.YtjbniljmgnmdnaaR0
import Derived.WalkKit
import Derived.ProofKit
import Derived.OpenShut
import Derived.SliceStrings
namespace Go.Proofs.Ytjbniljmgnmdnaa.fnExactTextOk
set_option linter.unusedSimpArgs false
open Go.AVM (s3 strs rv_strs rv_nil RVs)
open Go.ChangeShapes Go.WideShapes Go.ChangeAt Go.RowKit
set_option linter.unusedVariables false
theorem own : ownKnob Try.prog.godebug = none := by kernel_rfl
theorem cells9 : Try.prog.cellsOf 9 = 1 := by kernel_rfl
theorem laidOut : laidOutB Try.prog = true := by kernel_rfl
set_option maxRecDepth 100000 in
theorem lifted (os : Os) (started : os.Started) (H : Type) (enc : TypeId × Value → H) :
    ReturnsInHanded {} Try.checked os 3 .any (Rows.fnExactTextOkSpec.pre6 enc Try.prog Try.f3 Rows.fnExactTextOkRow.domain false) (Rows.fnExactTextOkSpec.post enc Try.prog Try.f3 false true false false) := by
  refine returnsInHanded_of_change (C := Try.checked) own started (by kernel_rfl) Try.func3
    (ChangeSpec.witness6 (enc := enc) (C := Try.checked) false ⟨#[], #[.slice none 0 0], []⟩ 8 (by kernel_rfl) (by kernel_rfl) (by kernel_rfl) (by kernel_rfl)) ?_
  intro W base args ds gs before hval0 hW hcnd _
  have hval : ∀ (j : Nat) t v, Try.f3.params[j]? = some t → args[j]? = some v → Value.okWide Try.prog W .any base t v := hval0
  have hW' := hW
  obtain ⟨p, q, hA0, hV, rfl, hfz, hnd⟩ := hW
  have hA : DataW.TrodAll enc Try.prog W 0 (fun _ => true) true Try.f3.params.toList args.toList ds p := hA0
  rw [Try.params3] at hA hval
  obtain ⟨v0, d0, rfl, rfl, h0⟩ := trodAll_one hA
  obtain ⟨rfl, rfl⟩ := trodVars_none hV
  obtain ⟨a0, len, cap, rfl⟩ := okWide_slice Try.underlying22 (hval 0 22 v0 rfl rfl)
  have h0k := h0
  obtain ⟨fuel, hf⟩ := h0
  have hok := hval 0 22 _ rfl rfl
  clear hA0 hval0
  simp only [List.append_nil] at hW'
  have hlt : ∀ x ∈ p, x.block < W.heap.size := fun x hx => by simpa using hW'.lt x hx
  have hargs : ∀ (W' : World), Below W.heap.size W W' → DataW.Trod enc Try.prog W' 0 (fun b => decide (b < W.heap.size)) true 22 (.slice a0 len cap) d0 p :=
    fun W' hn => Below.trod laidOut (by kernel_rfl) (of_decide_eq_true (by kernel_rfl)) h0k hn hlt
  have fin : ∀ xs : List ByteArray, (xs.length ≤ 9223372036854775807 ∧ ∀ s ∈ xs, s.size ≤ 9223372036854775807) → AVM.RV W (fun b => b < W.heap.size) (AVM.strs xs) (.slice a0 len cap) → Rows.fnExactTextOkSpec.fn H ([d0] ++ []) = { results := [.lit (.bool true)], args := [d0] } →
      Calls Try.checked.prog 3 #[.slice a0 len cap] W fun e W' => ∃ v, e = .returned v ∧ Rows.fnExactTextOkSpec.post enc Try.checked.prog Try.f3 false true false false W #[.slice a0 len cap] v W' := by
    intro xs hb hrv hspec
    refine ((s3 xs hb).2 W (fun b => b < W.heap.size) #[.slice a0 len cap] (fun b h => h) ⟨rfl, fun i x hx => ?_⟩).mono fun e W' ⟨v, r, hi, he, _, _, hr, hv, hbel⟩ => ?_
    · cases i with
      | zero => simp at hx; subst hx; exact ⟨_, rfl, hrv⟩
      | succ i => simp at hx
    · subst he hr
      rw [hv.bool_inv]
      exact ⟨_, rfl, _, _, _, [], _, [], hW', trodAll_mk1 (shut_bool Try.underlying4 _), trodAll_mk1 (hargs _ hbel), rfl, hbel.frame _, fun h => by cases h⟩
  rcases open_strings Try.underlying22 Try.underlying9 cells9 hf with ⟨hcs, hx⟩ | ⟨a, len', cap', ss, hcs, _, hl, hm, hz, hx, hcell, hws⟩
  · simp [Value.cells] at hcs
    obtain ⟨rfl, rfl, rfl⟩ := hcs
    exact fin [] ⟨by simp, by simp⟩ rv_nil rfl
  · simp [Value.cells] at hcs
    obtain ⟨rfl, rfl, rfl⟩ := hcs
    simp only [if_true] at hz
    refine fin (ss.take len) ⟨?_, fun s hs => hws s (List.mem_of_mem_take hs)⟩ (rv_strs hl hm hz hcell) rfl
    have : maxLen = 9223372036854775807 := rfl
    simp
    omega
theorem over : Rows.fnExactTextOkRow.holds Try.pinned (OpenSpec.ofChange Rows.fnExactTextOkSpec) :=
  OpenClaim.holds_of_wide 3 Try.f3 rfl rfl rfl rfl rfl rfl rfl ⟨rfl, rfl, rfl, rfl, rfl⟩ rfl rfl rfl rfl rfl (by kernel_rfl) Try.func3 (by kernel_rfl)
    (of_decide_eq_true (by kernel_rfl)) (by unfold Func.isWrapper; first | (rw [if_pos (by decide +kernel)]; kernel_rfl) | (rw [if_neg (by decide +kernel)]; exact ⟨rfl, rfl⟩))
    (fun os started H enc _ => lifted os started H enc)
theorem proved : Rows.FnExactTextOkSaid := over
end Go.Proofs.Ytjbniljmgnmdnaa.fnExactTextOk
namespace Go.Proofs.Ytjbniljmgnmdnaa
theorem fnExactTextOk_holds : Rows.FnExactTextOkSaid := fnExactTextOk.proved
#print axioms fnExactTextOk_holds
end Go.Proofs.Ytjbniljmgnmdnaa
