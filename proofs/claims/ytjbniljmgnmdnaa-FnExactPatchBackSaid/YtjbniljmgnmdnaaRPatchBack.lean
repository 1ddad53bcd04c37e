/- The given program's PatchBack gives what the reference's gives, for all arguments: the given statement FnExactPatchBackSaid, with no condition ahead of it. -/
import Derived.Test.YtjbniljmgnmdnaaRows
import Derived.Test.YtjbniljmgnmdnaaFE6
import Derived.Test.YtjbniljmgnmdnaaRK
import Derived.WalkKit
import Derived.ProofKit
import Derived.OpenShut
import Derived.Carry
namespace Go.Proofs.Ytjbniljmgnmdnaa.fnExactPatchBack
open Go.ChangeShapes Go.WideShapes Go.ChangeAt Go.RowKit
set_option linter.unusedVariables false
set_option linter.unusedSimpArgs false
theorem own : ownKnob Try.prog.godebug = none := by kernel_rfl
theorem laidOut : laidOutB Try.prog = true := by kernel_rfl
theorem ty3 : AVM.TyOk Try.prog (.int .i64) 3 := .int 3 _ Try.underlying3
theorem ty9 : AVM.TyOk Try.prog .str 9 := .str 9 Try.underlying9
theorem ty22 : AVM.TyOk Try.prog (.sl .str) 22 := .sl 22 9 .str Try.underlying22 (by kernel_rfl) (by decide) ty9
theorem ty61 : AVM.TyOk Try.prog (.st [.int .i64, .sl .str, .sl .str]) 61 := .st 61 _ _ Try.underlying61 (by kernel_rfl) rfl
    (by
      intro i f g hf hg
      match i, hf, hg with
      | 0, hf, hg => obtain rfl := Option.some.inj hf; obtain rfl := Option.some.inj hg; exact ⟨rfl, rfl, by kernel_rfl⟩
      | 1, hf, hg => obtain rfl := Option.some.inj hf; obtain rfl := Option.some.inj hg; exact ⟨rfl, rfl, by kernel_rfl⟩
      | 2, hf, hg => obtain rfl := Option.some.inj hf; obtain rfl := Option.some.inj hg; exact ⟨rfl, rfl, by kernel_rfl⟩
      | _ + 3, hf, _ => simp at hf)
    (by
      intro i f g hf hg
      match i, hf, hg with
      | 0, hf, hg => obtain rfl := Option.some.inj hf; obtain rfl := Option.some.inj hg; exact ty3
      | 1, hf, hg => obtain rfl := Option.some.inj hf; obtain rfl := Option.some.inj hg; exact ty22
      | 2, hf, hg => obtain rfl := Option.some.inj hf; obtain rfl := Option.some.inj hg; exact ty22
      | _ + 3, hf, _ => simp at hf)
theorem ty32 : AVM.TyOk Try.prog (.sl (.st [.int .i64, .sl .str, .sl .str])) 32 := .sl 32 61 (.st [.int .i64, .sl .str, .sl .str]) Try.underlying32 (by kernel_rfl) (by decide) ty61
set_option maxRecDepth 100000 in
theorem lifted (os : Os) (started : os.Started) (H : Type) (enc : TypeId × Value → H) :
    ReturnsInHanded {} Try.checked os 12 .any (Rows.fnExactPatchBackSpec.pre6 enc Try.prog Try.f12 Rows.fnExactPatchBackRow.domain false) (Rows.fnExactPatchBackSpec.post enc Try.prog Try.f12 false true false false) := by
  refine returnsInHanded_of_change (C := Try.checked) own started (by kernel_rfl) Try.func12
    (ChangeSpec.witness6 (enc := enc) (C := Try.checked) false ⟨#[], #[.slice none 0 0], []⟩ 8 (by kernel_rfl) (by kernel_rfl) (by kernel_rfl) (by kernel_rfl)) ?_
  intro W base args ds gs before hval0 hW hcnd _
  have hval : ∀ (j : Nat) t v, Try.f12.params[j]? = some t → args[j]? = some v → Value.okWide Try.prog W .any base t v := hval0
  have hW' := hW
  obtain ⟨p, q, hA0, hV, rfl, hfz, hnd⟩ := hW
  have hA : DataW.TrodAll enc Try.prog W 0 (fun _ => true) true Try.f12.params.toList args.toList ds p := hA0
  rw [Try.params12] at hA hval
  obtain ⟨v0, d0, rfl, rfl, h0⟩ := trodAll_one hA
  have hp0 : ∀ x, x ∈ p → x ∈ p := fun x hx => hx
  obtain ⟨rfl, rfl⟩ := trodVars_none hV
  have hok0 := hval 0 32 v0 rfl rfl
  clear hA0 hval0 hA
  have harg0 : ∀ (W' : World), Below W.heap.size W W' → DataW.Trod enc Try.prog W' 0 (fun b => decide (b < W.heap.size)) true 32 v0 d0 p :=
    fun W' hn => Below.trod laidOut (by kernel_rfl) (of_decide_eq_true (by kernel_rfl)) h0 hn (fun x hx => by simpa using hW'.lt x (by simp [hx]))
  obtain ⟨a0, hf0, hr0⟩ := AVM.opened_arg ty32 hok0 h0
  obtain ⟨x0, rfl, hb0⟩ := AVM.fits_hunks hf0
  refine ((AVM.law_PatchBack x0 hb0).2 W (fun b => b < W.heap.size) #[v0] (fun b h => h) (AVM.rvs1 hr0)).mono fun e W' ⟨v, r, hi, he, _, _, hr, hv, hbel⟩ => ?_
  subst he hr
  rw [hv.bool_inv]
  simp only [List.append_nil] at hW'
  exact ⟨_, rfl, _, _, _, [], _, [], hW', trodAll_mk1 (shut_bool Try.underlying4 _), trodAll_mk1 (harg0 _ hbel), rfl, hbel.frame _, fun h => by cases h⟩
theorem over : Rows.fnExactPatchBackRow.holds Try.pinned (OpenSpec.ofChange Rows.fnExactPatchBackSpec) :=
  OpenClaim.holds_of_wide 12 Try.f12 rfl rfl rfl rfl rfl rfl rfl ⟨rfl, rfl, rfl, rfl, rfl⟩ rfl rfl rfl rfl rfl (by kernel_rfl) Try.func12 (by kernel_rfl)
    (of_decide_eq_true (by kernel_rfl)) (by unfold Func.isWrapper; first | (rw [if_pos (by decide +kernel)]; kernel_rfl) | (rw [if_neg (by decide +kernel)]; exact ⟨rfl, rfl⟩))
    (fun os started H enc _ => lifted os started H enc)
theorem proved : Rows.FnExactPatchBackSaid := over
end Go.Proofs.Ytjbniljmgnmdnaa.fnExactPatchBack
namespace Go.Proofs.Ytjbniljmgnmdnaa
theorem fnExactPatchBack_holds : Rows.FnExactPatchBackSaid := fnExactPatchBack.proved
#print axioms fnExactPatchBack_holds
end Go.Proofs.Ytjbniljmgnmdnaa
