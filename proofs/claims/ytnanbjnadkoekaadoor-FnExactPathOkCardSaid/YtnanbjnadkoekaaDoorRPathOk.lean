/- The given program's PathOk gives what the reference's gives, for all arguments: the given statement FnExactPathOkCardSaid, with no condition ahead of it. -/
import Derived.Test.YtnanbjnadkoekaaDoorRows
import Derived.Test.YtnanbjnadkoekaaDoorTP2
import Derived.Test.YtnanbjnadkoekaaDoorRK
import Derived.WalkKit
import Derived.ProofKit
import Derived.OpenShut
import Derived.Carry
import Derived.Test.YtnanbjnadkoekaaDoorCards
import Derived.Test.YtnanbjnadkoekaaDoorTie
import Derived.Lay
import Derived.LaidOnce
import Derived.SevenTiedAt
namespace Go.Proofs.YtnanbjnadkoekaaDoor.fnExactPathOk
open Go.ChangeShapes Go.WideShapes Go.ChangeAt Go.RowKit
set_option linter.unusedVariables false
set_option linter.unusedSimpArgs false
theorem own : ownKnob Tryd.prog.godebug = none := by kernel_rfl
theorem laidOut : laidOutB Tryd.prog = true := by kernel_rfl
theorem ty9 : AVM.TyOk Tryd.prog .str 9 := .str 9 Tryd.underlying9
set_option maxRecDepth 100000 in
theorem lifted (os : Os) (started : os.Started) (H : Type) (enc : TypeId × Value → H) :
    ReturnsInHanded {} Tryd.checked os 3 .any (fun w args => (Rows.fnExactPathOkSpec.pre enc Tryd.prog Tryd.f3 [] false w args ∧ laidMetH Tryd.prog Rows.fnExactPathOkRow.laid w) ∧ sizedMet enc Tryd.prog Tryd.f3 (OpenSpec.ofChange Rows.fnExactPathOkSpec) false w args)
      (Rows.fnExactPathOkSpec.post enc Tryd.prog Tryd.f3 false true false false) := by
  refine returnsInHanded_of_change_and (C := Tryd.checked) (X := fun w _ => laidMetH Tryd.prog Rows.fnExactPathOkRow.laid w) (fun _ _ _ hh h => h.of_heap hh) own started (by kernel_rfl) Tryd.func3
    (ChangeSpec.witness_shaped (enc := enc) (C := Tryd.checked) (os := os) (X := fun w _ => laidMetH Tryd.prog Rows.fnExactPathOkRow.laid w) false (World.laidAll Tryd.prog os Rows.fnExactPathOkRow.laid) #[.string ByteArray.empty] 8 (World.laidAll_os _ _ _)
      (World.shaped_of_ZipB (by kernel_rfl) (by kernel_rfl)) (by kernel_rfl) (by kernel_rfl) (by kernel_rfl)
      (by rw [MakeChecks.laidMetH_plain _ _ _ (by kernel_rfl)]; exact laidMet_laidAll _ (by kernel_rfl) (by kernel_rfl))) ?_
  intro W base args ds gs before hval0 hW hcnd _ _ _
  have hval : ∀ (j : Nat) t v, Tryd.f3.params[j]? = some t → args[j]? = some v → Value.okWide Tryd.prog W .any base t v := hval0
  have hW' := hW
  obtain ⟨p, q, hA0, hV, rfl, hfz, hnd⟩ := hW
  have hA : DataW.TrodAll enc Tryd.prog W 0 (fun _ => true) true Tryd.f3.params.toList args.toList ds p := hA0
  rw [Tryd.params3] at hA hval
  obtain ⟨v0, d0, rfl, rfl, h0⟩ := trodAll_one hA
  have hp0 : ∀ x, x ∈ p → x ∈ p := fun x hx => hx
  obtain ⟨rfl, rfl⟩ := trodVars_none hV
  have hok0 := hval 0 9 v0 rfl rfl
  clear hA0 hval0 hA
  have harg0 : ∀ (W' : World), Below W.heap.size W W' → DataW.Trod enc Tryd.prog W' 0 (fun b => decide (b < W.heap.size)) true 9 v0 d0 p :=
    fun W' hn => Below.trod laidOut (by kernel_rfl) (of_decide_eq_true (by kernel_rfl)) h0 hn (fun x hx => by simpa using hW'.lt x (by simp [hx]))
  obtain ⟨a0, hf0, hr0⟩ := AVM.opened_arg ty9 hok0 h0
  obtain ⟨x0, rfl, hb0⟩ := AVM.fits_str hf0
  refine ((AVM.OK.body AVM.k3 (AVM.law_PathOk x0 hb0)).2 W (fun b => b < W.heap.size) #[v0] (fun b h => h) (AVM.rvs1 hr0)).mono fun e W' ⟨v, r, hi, he, _, _, hr, hv, hbel⟩ => ?_
  subst he hr
  rw [hv.bool_inv]
  simp only [List.append_nil] at hW'
  exact ⟨_, rfl, _, _, _, [], _, [], hW', trodAll_mk1 (shut_bool Tryd.underlying4 _), trodAll_mk1 (harg0 _ hbel), rfl, hbel.frame _, fun h => by cases h⟩
theorem over : Rows.fnExactPathOkRow.holds Tryd.pinned (OpenSpec.ofChange Rows.fnExactPathOkSpec) :=
  OpenClaim.holds_of_wide 3 Tryd.f3 rfl rfl rfl rfl rfl rfl rfl ⟨rfl, rfl, rfl, rfl, rfl⟩ rfl rfl rfl rfl rfl (by kernel_rfl) Tryd.func3 (by kernel_rfl)
    (of_decide_eq_true (by kernel_rfl)) (by unfold Func.isWrapper; first | (rw [if_pos (by decide +kernel)]; kernel_rfl) | (rw [if_neg (by decide +kernel)]; exact ⟨rfl, rfl⟩))
    (fun os started H enc _ => lifted os started H enc)
theorem proved : Rows.FnExactPathOkCardSaid :=
  Claim7.holds_tied_plain_at .later [] [.data, .pinned] true (true, "35d86a2fc20f7a051790d60222568155d4152d19825c47e92da81abf83048adb") false over (fun _ h => by cases h) (by kernel_rfl) (fun _ h => by cases h) fnExactPathOk_row_tie rfl ⟨rfl, rfl⟩ (by kernel_rfl) rfl
    (fun f fn hf hfn => by
      obtain rfl : f = 3 := Option.some.inj ((show Tryd.prog.funcNamed "loop.example/stemma/laws.FnExactPathOk" = some 3 by kernel_rfl).symm.trans hf) |>.symm
      obtain rfl : fn = Tryd.f3 := (Option.some.inj (Tryd.func3.symm.trans hfn)).symm
      exact ⟨by kernel_rfl, fun j t ht => by
        rw [Tryd.params3] at ht
        have hm : t ∈ [9] := by simpa using Array.mem_of_getElem? ht
        have hall : ([9].all fun u => !Tryd.prog.wantsStandIn u) = true := by kernel_rfl
        exact (show Tryd.prog.wantsStandIn t = false by simpa using List.all_eq_true.1 hall t hm)⟩)
    (by kernel_rfl)
end Go.Proofs.YtnanbjnadkoekaaDoor.fnExactPathOk
namespace Go.Proofs.YtnanbjnadkoekaaDoor
theorem fnExactPathOk_holds : Rows.FnExactPathOkCardSaid := fnExactPathOk.proved
#print axioms fnExactPathOk_holds
end Go.Proofs.YtnanbjnadkoekaaDoor
