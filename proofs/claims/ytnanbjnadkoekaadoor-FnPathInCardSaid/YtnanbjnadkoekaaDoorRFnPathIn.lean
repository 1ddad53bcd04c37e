/- The given program's FnPathIn gives what the reference's gives, for all arguments: the given statement FnPathInCardSaid, with no condition ahead of it. -/
import Derived.Test.YtnanbjnadkoekaaDoorRows
import Derived.Test.YtnanbjnadkoekaaDoorDR3
import Derived.Test.YtnanbjnadkoekaaDoorRK3
import Derived.WalkKit
import Derived.ProofKit
import Derived.OpenShut
import Derived.Carry
import Derived.Test.YtnanbjnadkoekaaDoorCards
import Derived.Test.YtnanbjnadkoekaaDoorTie
import Derived.Lay
import Derived.LaidOnce
import Derived.SevenTiedAt
namespace Go.Proofs.YtnanbjnadkoekaaDoor.fnPathIn
open Go.ChangeShapes Go.WideShapes Go.ChangeAt Go.RowKit
set_option linter.unusedVariables false
set_option linter.unusedSimpArgs false
theorem own : ownKnob Tryd.prog.godebug = none := by kernel_rfl
theorem laidOut : laidOutB Tryd.prog = true := by kernel_rfl
theorem ty5 : AVM.TyOk Tryd.prog (.int .u8) 5 := .int 5 _ Tryd.underlying5
theorem ty24 : AVM.TyOk Tryd.prog (.sl (.int .u8)) 24 := .sl 24 5 (.int .u8) Tryd.underlying24 (by kernel_rfl) (by decide) ty5
set_option maxRecDepth 100000 in
theorem lifted (os : Os) (started : os.Started) (H : Type) (enc : TypeId × Value → H) :
    ReturnsInHanded {} Tryd.checked os 5 .any (fun w args => (Rows.fnPathInSpec.pre enc Tryd.prog Tryd.f5 [] false w args ∧ laidMetH Tryd.prog Rows.fnPathInRow.laid w) ∧ sizedMet enc Tryd.prog Tryd.f5 (OpenSpec.ofChange Rows.fnPathInSpec) false w args)
      (Rows.fnPathInSpec.post enc Tryd.prog Tryd.f5 false true false false) := by
  refine returnsInHanded_of_change_and (C := Tryd.checked) (X := fun w _ => laidMetH Tryd.prog Rows.fnPathInRow.laid w) (fun _ _ _ hh h => h.of_heap hh) own started (by kernel_rfl) Tryd.func5
    (ChangeSpec.witness_shaped (enc := enc) (C := Tryd.checked) (os := os) (X := fun w _ => laidMetH Tryd.prog Rows.fnPathInRow.laid w) false (World.laidAll Tryd.prog os Rows.fnPathInRow.laid) #[.slice none 0 0, .slice none 0 0] 8 (World.laidAll_os _ _ _)
      (World.shaped_of_ZipB (by kernel_rfl) (by kernel_rfl)) (by kernel_rfl) (by kernel_rfl) (by kernel_rfl)
      (by rw [MakeChecks.laidMetH_plain _ _ _ (by kernel_rfl)]; exact laidMet_laidAll _ (by kernel_rfl) (by kernel_rfl))) ?_
  intro W base args ds gs before hval0 hW hcnd hz _ _
  have hval : ∀ (j : Nat) t v, Tryd.f5.params[j]? = some t → args[j]? = some v → Value.okWide Tryd.prog W .any base t v := hval0
  have hW' := hW
  obtain ⟨p, q, hA0, hV, rfl, hfz, hnd⟩ := hW
  have hA : DataW.TrodAll enc Tryd.prog W 0 (fun _ => true) true Tryd.f5.params.toList args.toList ds p := hA0
  rw [Tryd.params5] at hA hval
  obtain ⟨v0, v1, d0, d1, p0, p1, rfl, rfl, rfl, h0, h1⟩ := trodAll_two hA
  obtain ⟨rfl, rfl⟩ := trodVars_none hV
  have hok0 := hval 0 24 v0 rfl rfl
  have hok1 := hval 1 24 v1 rfl rfl
  clear hA0 hval0 hA
  have harg0 : ∀ (W' : World), Below W.heap.size W W' → DataW.Trod enc Tryd.prog W' 0 (fun b => decide (b < W.heap.size)) true 24 v0 d0 p0 :=
    fun W' hn => Below.trod laidOut (by kernel_rfl) (of_decide_eq_true (by kernel_rfl)) h0 hn (fun x hx => by simpa using hW'.lt x (by simp [hx]))
  obtain ⟨a0, hf0, hr0⟩ := AVM.opened_arg ty24 hok0 h0
  obtain ⟨x0, rfl, hb0⟩ := AVM.fits_bytes hf0
  have harg1 : ∀ (W' : World), Below W.heap.size W W' → DataW.Trod enc Tryd.prog W' 0 (fun b => decide (b < W.heap.size)) true 24 v1 d1 p1 :=
    fun W' hn => Below.trod laidOut (by kernel_rfl) (of_decide_eq_true (by kernel_rfl)) h1 hn (fun x hx => by simpa using hW'.lt x (by simp [hx]))
  obtain ⟨a1, hf1, hr1⟩ := AVM.opened_arg ty24 hok1 h1
  obtain ⟨x1, rfl, hb1⟩ := AVM.fits_bytes hf1
  refine ((AVM.OK.body AVM.k5 (AVM.law_FnPathIn x0 x1 hb0 hb1)).2 W (fun b => b < W.heap.size) #[v0, v1] (fun b h => h) (AVM.rvs2 hr0 hr1)).mono fun e W' ⟨v, r, hi, he, _, _, hr, hv, hbel⟩ => ?_
  subst he hr
  rw [hv.bool_inv]
  simp only [List.append_nil] at hW'
  exact ⟨_, rfl, _, _, _, [], _, [], hW', trodAll_mk1 (shut_bool Tryd.underlying4 _), trodAll_mk2 (harg0 _ hbel) (harg1 _ hbel), rfl, hbel.frame _, fun h => by cases h⟩
theorem over : Rows.fnPathInRow.holds Tryd.pinned (OpenSpec.ofChange Rows.fnPathInSpec) :=
  OpenClaim.holds_of_wide 5 Tryd.f5 rfl rfl rfl rfl rfl rfl rfl ⟨rfl, rfl, rfl, rfl, rfl⟩ rfl rfl rfl rfl rfl (by kernel_rfl) Tryd.func5 (by kernel_rfl)
    (of_decide_eq_true (by kernel_rfl)) (by unfold Func.isWrapper; first | (rw [if_pos (by decide +kernel)]; kernel_rfl) | (rw [if_neg (by decide +kernel)]; exact ⟨rfl, rfl⟩))
    (fun os started H enc _ => lifted os started H enc)
theorem proved : Rows.FnPathInCardSaid :=
  Claim7.holds_tied_plain_at .later [] [.data, .pinned] true (true, "35d86a2fc20f7a051790d60222568155d4152d19825c47e92da81abf83048adb") false over (fun _ h => by cases h) (by kernel_rfl) (fun _ h => by cases h) fnPathIn_row_tie rfl ⟨rfl, rfl⟩ (by kernel_rfl) rfl
    (fun f fn hf hfn => by
      obtain rfl : f = 5 := Option.some.inj ((show Tryd.prog.funcNamed "loop.example/stemma/laws.FnPathIn" = some 5 by kernel_rfl).symm.trans hf) |>.symm
      obtain rfl : fn = Tryd.f5 := (Option.some.inj (Tryd.func5.symm.trans hfn)).symm
      exact ⟨by kernel_rfl, fun j t ht => by
        rw [Tryd.params5] at ht
        have hm : t ∈ [24, 24] := by simpa using Array.mem_of_getElem? ht
        have hall : ([24, 24].all fun u => !Tryd.prog.wantsStandIn u) = true := by kernel_rfl
        exact (show Tryd.prog.wantsStandIn t = false by simpa using List.all_eq_true.1 hall t hm)⟩)
    (by kernel_rfl)
end Go.Proofs.YtnanbjnadkoekaaDoor.fnPathIn
namespace Go.Proofs.YtnanbjnadkoekaaDoor
theorem fnPathIn_holds : Rows.FnPathInCardSaid := fnPathIn.proved
#print axioms fnPathIn_holds
end Go.Proofs.YtnanbjnadkoekaaDoor
