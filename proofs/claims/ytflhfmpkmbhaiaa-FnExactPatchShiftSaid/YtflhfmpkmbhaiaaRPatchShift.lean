/- The given program's PatchShift gives what the reference's gives, for all arguments: the given statement FnExactPatchShiftSaid, with no condition ahead of it. -/
import Derived.Test.YtflhfmpkmbhaiaaRows
import Derived.Test.YtflhfmpkmbhaiaaPS2
import Derived.Test.YtflhfmpkmbhaiaaRK
import Derived.WalkKit
import Derived.ProofKit
import Derived.OpenShut
import Derived.Carry
namespace Go.Proofs.Ytflhfmpkmbhaiaa.fnExactPatchShift
open Go.ChangeShapes Go.WideShapes Go.ChangeAt Go.RowKit
set_option linter.unusedVariables false
set_option linter.unusedSimpArgs false
theorem own : ownKnob Try.prog.godebug = none := by kernel_rfl
theorem laidOut : laidOutB Try.prog = true := by kernel_rfl
theorem ty3 : AVM.TyOk Try.prog (.int .i64) 3 := .int 3 _ Try.underlying3
theorem ty9 : AVM.TyOk Try.prog .str 9 := .str 9 Try.underlying9
theorem ty22 : AVM.TyOk Try.prog (.sl .str) 22 := .sl 22 9 .str Try.underlying22 (by kernel_rfl) (by decide) ty9
theorem ty39 : AVM.TyOk Try.prog (.st [.int .i64, .sl .str, .sl .str]) 39 := .st 39 _ _ Try.underlying39 (by kernel_rfl) rfl
    (by
      intro i f g hf hg
      match i, hf, hg with
      | 0, hf, hg => obtain rfl := Option.some.inj hf; obtain rfl := Option.some.inj hg; exact ⟨rfl, rfl, by kernel_rfl⟩
      | 1, hf, hg => obtain rfl := Option.some.inj hf; obtain rfl := Option.some.inj hg; exact ⟨rfl, rfl, by kernel_rfl⟩
      | 2, hf, hg => obtain rfl := Option.some.inj hf; obtain rfl := Option.some.inj hg; exact ⟨rfl, rfl, by kernel_rfl⟩
      | _ + 3, hf, _ => simp at hf)
    (by
      intro i f g hf hg
      match i, hf, hg with
      | 0, hf, hg => obtain rfl := Option.some.inj hf; obtain rfl := Option.some.inj hg; exact ty3
      | 1, hf, hg => obtain rfl := Option.some.inj hf; obtain rfl := Option.some.inj hg; exact ty22
      | 2, hf, hg => obtain rfl := Option.some.inj hf; obtain rfl := Option.some.inj hg; exact ty22
      | _ + 3, hf, _ => simp at hf)
theorem ty23 : AVM.TyOk Try.prog (.sl (.st [.int .i64, .sl .str, .sl .str])) 23 := .sl 23 39 (.st [.int .i64, .sl .str, .sl .str]) Try.underlying23 (by kernel_rfl) (by decide) ty39
set_option maxRecDepth 100000 in
theorem lifted (os : Os) (started : os.Started) (H : Type) (enc : TypeId × Value → H) :
    ReturnsInHanded {} Try.checked os 4 .any (Rows.fnExactPatchShiftSpec.pre6 enc Try.prog Try.f4 Rows.fnExactPatchShiftRow.domain false) (Rows.fnExactPatchShiftSpec.post enc Try.prog Try.f4 false true false false) := by
  refine returnsInHanded_of_change (C := Try.checked) own started (by kernel_rfl) Try.func4
    (ChangeSpec.witness6 (enc := enc) (C := Try.checked) false ⟨#[], #[.slice none 0 0, .slice none 0 0], []⟩ 8 (by kernel_rfl) (by kernel_rfl) (by kernel_rfl) (by kernel_rfl)) ?_
  intro W base args ds gs before hval0 hW hcnd hz
  have hval : ∀ (j : Nat) t v, Try.f4.params[j]? = some t → args[j]? = some v → Value.okWide Try.prog W .any base t v := hval0
  have hW' := hW
  obtain ⟨p, q, hA0, hV, rfl, hfz, hnd⟩ := hW
  have hA : DataW.TrodAll enc Try.prog W 0 (fun _ => true) true Try.f4.params.toList args.toList ds p := hA0
  rw [Try.params4] at hA hval
  obtain ⟨v0, v1, d0, d1, p0, p1, rfl, rfl, rfl, h0, h1⟩ := trodAll_two hA
  obtain ⟨rfl, rfl⟩ := trodVars_none hV
  have hok0 := hval 0 23 v0 rfl rfl
  have hok1 := hval 1 23 v1 rfl rfl
  clear hA0 hval0 hA
  have harg0 : ∀ (W' : World), Below W.heap.size W W' → DataW.Trod enc Try.prog W' 0 (fun b => decide (b < W.heap.size)) true 23 v0 d0 p0 :=
    fun W' hn => Below.trod laidOut (by kernel_rfl) (of_decide_eq_true (by kernel_rfl)) h0 hn (fun x hx => by simpa using hW'.lt x (by simp [hx]))
  obtain ⟨a0, hf0, hr0⟩ := AVM.opened_arg ty23 hok0 h0
  obtain ⟨x0, rfl, hb0⟩ := AVM.fits_hunks hf0
  have harg1 : ∀ (W' : World), Below W.heap.size W W' → DataW.Trod enc Try.prog W' 0 (fun b => decide (b < W.heap.size)) true 23 v1 d1 p1 :=
    fun W' hn => Below.trod laidOut (by kernel_rfl) (of_decide_eq_true (by kernel_rfl)) h1 hn (fun x hx => by simpa using hW'.lt x (by simp [hx]))
  obtain ⟨a1, hf1, hr1⟩ := AVM.opened_arg ty23 hok1 h1
  obtain ⟨x1, rfl, hb1⟩ := AVM.fits_hunks hf1
  refine ((AVM.OK.body AVM.k4 (AVM.law_PatchShift x0 x1 hb0 hb1)).2 W (fun b => b < W.heap.size) #[v0, v1] (fun b h => h) (AVM.rvs2 hr0 hr1)).mono fun e W' ⟨v, r, hi, he, _, _, hr, hv, hbel⟩ => ?_
  subst he hr
  rw [hv.bool_inv]
  simp only [List.append_nil] at hW'
  exact ⟨_, rfl, _, _, _, [], _, [], hW', trodAll_mk1 (shut_bool Try.underlying4 _), trodAll_mk2 (harg0 _ hbel) (harg1 _ hbel), rfl, hbel.frame _, fun h => by cases h⟩
theorem over : Rows.fnExactPatchShiftRow.holds Try.pinned (OpenSpec.ofChange Rows.fnExactPatchShiftSpec) :=
  OpenClaim.holds_of_wide 4 Try.f4 rfl rfl rfl rfl rfl rfl rfl ⟨rfl, rfl, rfl, rfl, rfl⟩ rfl rfl rfl rfl rfl (by kernel_rfl) Try.func4 (by kernel_rfl)
    (of_decide_eq_true (by kernel_rfl)) (by unfold Func.isWrapper; first | (rw [if_pos (by decide +kernel)]; kernel_rfl) | (rw [if_neg (by decide +kernel)]; exact ⟨rfl, rfl⟩))
    (fun os started H enc _ => lifted os started H enc)
theorem proved : Rows.FnExactPatchShiftSaid := over
end Go.Proofs.Ytflhfmpkmbhaiaa.fnExactPatchShift
namespace Go.Proofs.Ytflhfmpkmbhaiaa
theorem fnExactPatchShift_holds : Rows.FnExactPatchShiftSaid := fnExactPatchShift.proved
#print axioms fnExactPatchShift_holds
end Go.Proofs.Ytflhfmpkmbhaiaa
