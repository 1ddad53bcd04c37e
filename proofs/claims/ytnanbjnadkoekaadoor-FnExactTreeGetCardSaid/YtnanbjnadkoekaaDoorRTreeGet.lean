/- The given program's TreeGet gives what the reference's gives, for all arguments: the given statement FnExactTreeGetCardSaid, with no condition ahead of it. -/
import Derived.Test.YtnanbjnadkoekaaDoorRows
import Derived.Test.YtnanbjnadkoekaaDoorTU4
import Derived.Test.YtnanbjnadkoekaaDoorRK2
import Derived.WalkKit
import Derived.ProofKit
import Derived.OpenShut
import Derived.Carry
import Derived.Test.YtnanbjnadkoekaaDoorCards
import Derived.Test.YtnanbjnadkoekaaDoorTie
import Derived.Lay
import Derived.LaidOnce
import Derived.SevenTiedAt
namespace Go.Proofs.YtnanbjnadkoekaaDoor.fnExactTreeGet
open Go.ChangeShapes Go.WideShapes Go.ChangeAt Go.RowKit
set_option linter.unusedVariables false
set_option linter.unusedSimpArgs false
theorem own : ownKnob Tryd.prog.godebug = none := by kernel_rfl
theorem laidOut : laidOutB Tryd.prog = true := by kernel_rfl
theorem ty9 : AVM.TyOk Tryd.prog .str 9 := .str 9 Tryd.underlying9
theorem ty35 : AVM.TyOk Tryd.prog (.sl .str) 35 := .sl 35 9 .str Tryd.underlying35 (by kernel_rfl) (by decide) ty9
theorem ty46 : AVM.TyOk Tryd.prog (.st [.str, .sl .str]) 46 := .st 46 _ _ Tryd.underlying46 (by kernel_rfl) rfl
    (by
      intro i f g hf hg
      match i, hf, hg with
      | 0, hf, hg => obtain rfl := Option.some.inj hf; obtain rfl := Option.some.inj hg; exact ⟨rfl, rfl, by kernel_rfl⟩
      | 1, hf, hg => obtain rfl := Option.some.inj hf; obtain rfl := Option.some.inj hg; exact ⟨rfl, rfl, by kernel_rfl⟩
      | _ + 2, hf, _ => simp at hf)
    (by
      intro i f g hf hg
      match i, hf, hg with
      | 0, hf, hg => obtain rfl := Option.some.inj hf; obtain rfl := Option.some.inj hg; exact ty9
      | 1, hf, hg => obtain rfl := Option.some.inj hf; obtain rfl := Option.some.inj hg; exact ty35
      | _ + 2, hf, _ => simp at hf)
theorem ty28 : AVM.TyOk Tryd.prog (.sl (.st [.str, .sl .str])) 28 := .sl 28 46 (.st [.str, .sl .str]) Tryd.underlying28 (by kernel_rfl) (by decide) ty46
set_option maxRecDepth 100000 in
theorem lifted (os : Os) (started : os.Started) (H : Type) (enc : TypeId × Value → H) :
    ReturnsInHanded {} Tryd.checked os 9 .any (fun w args => (Rows.fnExactTreeGetSpec.pre enc Tryd.prog Tryd.f9 [] false w args ∧ laidMetH Tryd.prog Rows.fnExactTreeGetRow.laid w) ∧ sizedMet enc Tryd.prog Tryd.f9 (OpenSpec.ofChange Rows.fnExactTreeGetSpec) false w args)
      (Rows.fnExactTreeGetSpec.post enc Tryd.prog Tryd.f9 false true false false) := by
  refine returnsInHanded_of_change_and (C := Tryd.checked) (X := fun w _ => laidMetH Tryd.prog Rows.fnExactTreeGetRow.laid w) (fun _ _ _ hh h => h.of_heap hh) own started (by kernel_rfl) Tryd.func9
    (ChangeSpec.witness_shaped (enc := enc) (C := Tryd.checked) (os := os) (X := fun w _ => laidMetH Tryd.prog Rows.fnExactTreeGetRow.laid w) false (World.laidAll Tryd.prog os Rows.fnExactTreeGetRow.laid) #[.slice none 0 0, .string ByteArray.empty] 8 (World.laidAll_os _ _ _)
      (World.shaped_of_ZipB (by kernel_rfl) (by kernel_rfl)) (by kernel_rfl) (by kernel_rfl) (by kernel_rfl)
      (by rw [MakeChecks.laidMetH_plain _ _ _ (by kernel_rfl)]; exact laidMet_laidAll _ (by kernel_rfl) (by kernel_rfl))) ?_
  intro W base args ds gs before hval0 hW hcnd hz _ _
  have hval : ∀ (j : Nat) t v, Tryd.f9.params[j]? = some t → args[j]? = some v → Value.okWide Tryd.prog W .any base t v := hval0
  have hW' := hW
  obtain ⟨p, q, hA0, hV, rfl, hfz, hnd⟩ := hW
  have hA : DataW.TrodAll enc Tryd.prog W 0 (fun _ => true) true Tryd.f9.params.toList args.toList ds p := hA0
  rw [Tryd.params9] at hA hval
  obtain ⟨v0, v1, d0, d1, p0, p1, rfl, rfl, rfl, h0, h1⟩ := trodAll_two hA
  obtain ⟨rfl, rfl⟩ := trodVars_none hV
  have hok0 := hval 0 28 v0 rfl rfl
  have hok1 := hval 1 9 v1 rfl rfl
  clear hA0 hval0 hA
  have harg0 : ∀ (W' : World), Below W.heap.size W W' → DataW.Trod enc Tryd.prog W' 0 (fun b => decide (b < W.heap.size)) true 28 v0 d0 p0 :=
    fun W' hn => Below.trod laidOut (by kernel_rfl) (of_decide_eq_true (by kernel_rfl)) h0 hn (fun x hx => by simpa using hW'.lt x (by simp [hx]))
  obtain ⟨a0, hf0, hr0⟩ := AVM.opened_arg ty28 hok0 h0
  obtain ⟨x0, rfl, hb0⟩ := AVM.fits_files hf0
  replace hb0 := And.intro hb0 (AVM.sl_size hz (j := 0) (t := 28) (e := 46) (by kernel_rfl) rfl Tryd.underlying28 (of_decide_eq_true (by kernel_rfl)) h0 hr0)
  have harg1 : ∀ (W' : World), Below W.heap.size W W' → DataW.Trod enc Tryd.prog W' 0 (fun b => decide (b < W.heap.size)) true 9 v1 d1 p1 :=
    fun W' hn => Below.trod laidOut (by kernel_rfl) (of_decide_eq_true (by kernel_rfl)) h1 hn (fun x hx => by simpa using hW'.lt x (by simp [hx]))
  obtain ⟨a1, hf1, hr1⟩ := AVM.opened_arg ty9 hok1 h1
  obtain ⟨x1, rfl, hb1⟩ := AVM.fits_str hf1
  replace hb1 := AVM.str_size hz (j := 1) (t := 9) (s := x1) (by kernel_rfl) (by rw [AVM.str_weight Tryd.underlying9 h1 hr1]; rfl)
  refine ((AVM.OK.body AVM.k9 (AVM.law_TreeGet x0 x1 hb0 hb1)).2 W (fun b => b < W.heap.size) #[v0, v1] (fun b h => h) (AVM.rvs2 hr0 hr1)).mono fun e W' ⟨v, r, hi, he, _, _, hr, hv, hbel⟩ => ?_
  subst he hr
  rw [hv.bool_inv]
  simp only [List.append_nil] at hW'
  exact ⟨_, rfl, _, _, _, [], _, [], hW', trodAll_mk1 (shut_bool Tryd.underlying4 _), trodAll_mk2 (harg0 _ hbel) (harg1 _ hbel), rfl, hbel.frame _, fun h => by cases h⟩
theorem over : Rows.fnExactTreeGetRow.holds Tryd.pinned (OpenSpec.ofChange Rows.fnExactTreeGetSpec) :=
  OpenClaim.holds_of_wide 9 Tryd.f9 rfl rfl rfl rfl rfl rfl rfl ⟨rfl, rfl, rfl, rfl, rfl⟩ rfl rfl rfl rfl rfl (by kernel_rfl) Tryd.func9 (by kernel_rfl)
    (of_decide_eq_true (by kernel_rfl)) (by unfold Func.isWrapper; first | (rw [if_pos (by decide +kernel)]; kernel_rfl) | (rw [if_neg (by decide +kernel)]; exact ⟨rfl, rfl⟩))
    (fun os started H enc _ => lifted os started H enc)
theorem proved : Rows.FnExactTreeGetCardSaid :=
  Claim7.holds_tied_plain_at .later [] [.data, .pinned] true (true, "35d86a2fc20f7a051790d60222568155d4152d19825c47e92da81abf83048adb") false over (fun _ h => by cases h) (by kernel_rfl) (fun _ h => by cases h) fnExactTreeGet_row_tie rfl ⟨rfl, rfl⟩ (by kernel_rfl) rfl
    (fun f fn hf hfn => by
      obtain rfl : f = 9 := Option.some.inj ((show Tryd.prog.funcNamed "loop.example/stemma/laws.FnExactTreeGet" = some 9 by kernel_rfl).symm.trans hf) |>.symm
      obtain rfl : fn = Tryd.f9 := (Option.some.inj (Tryd.func9.symm.trans hfn)).symm
      exact ⟨by kernel_rfl, fun j t ht => by
        rw [Tryd.params9] at ht
        have hm : t ∈ [28, 9] := by simpa using Array.mem_of_getElem? ht
        have hall : ([28, 9].all fun u => !Tryd.prog.wantsStandIn u) = true := by kernel_rfl
        exact (show Tryd.prog.wantsStandIn t = false by simpa using List.all_eq_true.1 hall t hm)⟩)
    (by kernel_rfl)
end Go.Proofs.YtnanbjnadkoekaaDoor.fnExactTreeGet
namespace Go.Proofs.YtnanbjnadkoekaaDoor
theorem fnExactTreeGet_holds : Rows.FnExactTreeGetCardSaid := fnExactTreeGet.proved
#print axioms fnExactTreeGet_holds
end Go.Proofs.YtnanbjnadkoekaaDoor
