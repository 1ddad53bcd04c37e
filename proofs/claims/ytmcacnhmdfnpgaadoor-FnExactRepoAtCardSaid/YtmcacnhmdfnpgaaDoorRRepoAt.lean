/- The given program's RepoAt gives what the reference's gives, for all arguments: the given statement FnExactRepoAtCardSaid, with no condition ahead of it. -/
import Derived.Test.YtmcacnhmdfnpgaaDoorRows
import Derived.Test.YtmcacnhmdfnpgaaDoorUD3
import Derived.Test.YtmcacnhmdfnpgaaDoorRK5
import Derived.WalkKit
import Derived.ProofKit
import Derived.OpenShut
import Derived.Carry
import Derived.Test.YtmcacnhmdfnpgaaDoorCards
import Derived.Test.YtmcacnhmdfnpgaaDoorTie
import Derived.Lay
import Derived.LaidOnce
import Derived.SevenTiedAt
namespace Go.Proofs.YtmcacnhmdfnpgaaDoor.fnExactRepoAt
open Go.ChangeShapes Go.WideShapes Go.ChangeAt Go.RowKit
set_option linter.unusedVariables false
set_option linter.unusedSimpArgs false
theorem own : ownKnob Tryd.prog.godebug = none := by kernel_rfl
theorem laidOut : laidOutB Tryd.prog = true := by kernel_rfl
theorem ty3 : AVM.TyOk Tryd.prog (.int .i64) 3 := .int 3 _ Tryd.underlying3
theorem ty46 : AVM.TyOk Tryd.prog (.sl (.int .i64)) 46 := .sl 46 3 (.int .i64) Tryd.underlying46 (by kernel_rfl) (by decide) ty3
theorem ty9 : AVM.TyOk Tryd.prog .str 9 := .str 9 Tryd.underlying9
theorem ty69 : AVM.TyOk Tryd.prog (.sl .str) 69 := .sl 69 9 .str Tryd.underlying69 (by kernel_rfl) (by decide) ty9
theorem ty126 : AVM.TyOk Tryd.prog (.st [.str, .sl .str]) 126 := .st 126 _ _ Tryd.underlying126 (by kernel_rfl) rfl
    (by
      intro i f g hf hg
      match i, hf, hg with
      | 0, hf, hg => obtain rfl := Option.some.inj hf; obtain rfl := Option.some.inj hg; exact ⟨rfl, rfl, by kernel_rfl⟩
      | 1, hf, hg => obtain rfl := Option.some.inj hf; obtain rfl := Option.some.inj hg; exact ⟨rfl, rfl, by kernel_rfl⟩
      | _ + 2, hf, _ => simp at hf)
    (by
      intro i f g hf hg
      match i, hf, hg with
      | 0, hf, hg => obtain rfl := Option.some.inj hf; obtain rfl := Option.some.inj hg; exact ty9
      | 1, hf, hg => obtain rfl := Option.some.inj hf; obtain rfl := Option.some.inj hg; exact ty69
      | _ + 2, hf, _ => simp at hf)
theorem ty83 : AVM.TyOk Tryd.prog (.sl (.st [.str, .sl .str])) 83 := .sl 83 126 (.st [.str, .sl .str]) Tryd.underlying83 (by kernel_rfl) (by decide) ty126
theorem ty85 : AVM.TyOk Tryd.prog (.st [.sl (.int .i64), .str, .sl (.st [.str, .sl .str])]) 85 := .st 85 _ _ Tryd.underlying85 (by kernel_rfl) rfl
    (by
      intro i f g hf hg
      match i, hf, hg with
      | 0, hf, hg => obtain rfl := Option.some.inj hf; obtain rfl := Option.some.inj hg; exact ⟨rfl, rfl, by kernel_rfl⟩
      | 1, hf, hg => obtain rfl := Option.some.inj hf; obtain rfl := Option.some.inj hg; exact ⟨rfl, rfl, by kernel_rfl⟩
      | 2, hf, hg => obtain rfl := Option.some.inj hf; obtain rfl := Option.some.inj hg; exact ⟨rfl, rfl, by kernel_rfl⟩
      | _ + 3, hf, _ => simp at hf)
    (by
      intro i f g hf hg
      match i, hf, hg with
      | 0, hf, hg => obtain rfl := Option.some.inj hf; obtain rfl := Option.some.inj hg; exact ty46
      | 1, hf, hg => obtain rfl := Option.some.inj hf; obtain rfl := Option.some.inj hg; exact ty9
      | 2, hf, hg => obtain rfl := Option.some.inj hf; obtain rfl := Option.some.inj hg; exact ty83
      | _ + 3, hf, _ => simp at hf)
theorem ty22 : AVM.TyOk Tryd.prog (.sl (.st [.sl (.int .i64), .str, .sl (.st [.str, .sl .str])])) 22 := .sl 22 85 (.st [.sl (.int .i64), .str, .sl (.st [.str, .sl .str])]) Tryd.underlying22 (by kernel_rfl) (by decide) ty85
theorem ty88 : AVM.TyOk Tryd.prog (.st [.str, .int .i64]) 88 := .st 88 _ _ Tryd.underlying88 (by kernel_rfl) rfl
    (by
      intro i f g hf hg
      match i, hf, hg with
      | 0, hf, hg => obtain rfl := Option.some.inj hf; obtain rfl := Option.some.inj hg; exact ⟨rfl, rfl, by kernel_rfl⟩
      | 1, hf, hg => obtain rfl := Option.some.inj hf; obtain rfl := Option.some.inj hg; exact ⟨rfl, rfl, by kernel_rfl⟩
      | _ + 2, hf, _ => simp at hf)
    (by
      intro i f g hf hg
      match i, hf, hg with
      | 0, hf, hg => obtain rfl := Option.some.inj hf; obtain rfl := Option.some.inj hg; exact ty9
      | 1, hf, hg => obtain rfl := Option.some.inj hf; obtain rfl := Option.some.inj hg; exact ty3
      | _ + 2, hf, _ => simp at hf)
theorem ty23 : AVM.TyOk Tryd.prog (.sl (.st [.str, .int .i64])) 23 := .sl 23 88 (.st [.str, .int .i64]) Tryd.underlying23 (by kernel_rfl) (by decide) ty88
theorem ty25 : AVM.TyOk Tryd.prog (.st [.sl (.st [.sl (.int .i64), .str, .sl (.st [.str, .sl .str])]), .sl (.st [.str, .int .i64])]) 25 := .st 25 _ _ Tryd.underlying25 (by kernel_rfl) rfl
    (by
      intro i f g hf hg
      match i, hf, hg with
      | 0, hf, hg => obtain rfl := Option.some.inj hf; obtain rfl := Option.some.inj hg; exact ⟨rfl, rfl, by kernel_rfl⟩
      | 1, hf, hg => obtain rfl := Option.some.inj hf; obtain rfl := Option.some.inj hg; exact ⟨rfl, rfl, by kernel_rfl⟩
      | _ + 2, hf, _ => simp at hf)
    (by
      intro i f g hf hg
      match i, hf, hg with
      | 0, hf, hg => obtain rfl := Option.some.inj hf; obtain rfl := Option.some.inj hg; exact ty22
      | 1, hf, hg => obtain rfl := Option.some.inj hf; obtain rfl := Option.some.inj hg; exact ty23
      | _ + 2, hf, _ => simp at hf)
set_option maxRecDepth 100000 in
theorem lifted (os : Os) (started : os.Started) (H : Type) (enc : TypeId × Value → H) :
    ReturnsInHanded {} Tryd.checked os 4 .any (fun w args => (Rows.fnExactRepoAtSpec.pre enc Tryd.prog Tryd.f4 [] false w args ∧ laidMetH Tryd.prog Rows.fnExactRepoAtRow.laid w) ∧ sizedMet enc Tryd.prog Tryd.f4 (OpenSpec.ofChange Rows.fnExactRepoAtSpec) false w args)
      (Rows.fnExactRepoAtSpec.post enc Tryd.prog Tryd.f4 false true false false) := by
  refine returnsInHanded_of_change_and (C := Tryd.checked) (X := fun w _ => laidMetH Tryd.prog Rows.fnExactRepoAtRow.laid w) (fun _ _ _ hh h => h.of_heap hh) own started (by kernel_rfl) Tryd.func4
    (ChangeSpec.witness_shaped (enc := enc) (C := Tryd.checked) (os := os) (X := fun w _ => laidMetH Tryd.prog Rows.fnExactRepoAtRow.laid w) false (World.laidAll Tryd.prog os Rows.fnExactRepoAtRow.laid) #[.agg #[.slice none 0 0, .slice none 0 0], .string ByteArray.empty] 8 (World.laidAll_os _ _ _)
      (World.shaped_of_ZipB (by kernel_rfl) (by kernel_rfl)) (by kernel_rfl) (by kernel_rfl) (by kernel_rfl)
      (by rw [MakeChecks.laidMetH_plain _ _ _ (by kernel_rfl)]; exact laidMet_laidAll _ (by kernel_rfl) (by kernel_rfl))) ?_
  intro W base args ds gs before hval0 hW hcnd hz _ _
  have hval : ∀ (j : Nat) t v, Tryd.f4.params[j]? = some t → args[j]? = some v → Value.okWide Tryd.prog W .any base t v := hval0
  have hW' := hW
  obtain ⟨p, q, hA0, hV, rfl, hfz, hnd⟩ := hW
  have hA : DataW.TrodAll enc Tryd.prog W 0 (fun _ => true) true Tryd.f4.params.toList args.toList ds p := hA0
  rw [Tryd.params4] at hA hval
  obtain ⟨v0, v1, d0, d1, p0, p1, rfl, rfl, rfl, h0, h1⟩ := trodAll_two hA
  obtain ⟨rfl, rfl⟩ := trodVars_none hV
  have hok0 := hval 0 25 v0 rfl rfl
  have hok1 := hval 1 9 v1 rfl rfl
  clear hA0 hval0 hA
  have harg0 : ∀ (W' : World), Below W.heap.size W W' → DataW.Trod enc Tryd.prog W' 0 (fun b => decide (b < W.heap.size)) true 25 v0 d0 p0 :=
    fun W' hn => Below.trod laidOut (by kernel_rfl) (of_decide_eq_true (by kernel_rfl)) h0 hn (fun x hx => by simpa using hW'.lt x (by simp [hx]))
  obtain ⟨a0, hf0, hr0⟩ := AVM.opened_arg ty25 hok0 h0
  obtain ⟨x0, rfl, hb0⟩ := AVM.fits_repo hf0
  replace hb0 := And.intro hb0 (AVM.fld_size hz (j := 0) (t := 25) (by kernel_rfl) rfl Tryd.underlying25 rfl rfl (by kernel_rfl) Tryd.underlying22 (of_decide_eq_true (by kernel_rfl)) h0 hr0)
  have harg1 : ∀ (W' : World), Below W.heap.size W W' → DataW.Trod enc Tryd.prog W' 0 (fun b => decide (b < W.heap.size)) true 9 v1 d1 p1 :=
    fun W' hn => Below.trod laidOut (by kernel_rfl) (of_decide_eq_true (by kernel_rfl)) h1 hn (fun x hx => by simpa using hW'.lt x (by simp [hx]))
  obtain ⟨a1, hf1, hr1⟩ := AVM.opened_arg ty9 hok1 h1
  obtain ⟨x1, rfl, hb1⟩ := AVM.fits_str hf1
  replace hb1 := AVM.str_size hz (j := 1) (t := 9) (s := x1) (by kernel_rfl) (by rw [AVM.str_weight Tryd.underlying9 h1 hr1]; rfl)
  refine ((AVM.OK.body AVM.k4 (AVM.law_RepoAt x0 x1 hb0 hb1)).2 W (fun b => b < W.heap.size) #[v0, v1] (fun b h => h) (AVM.rvs2 hr0 hr1)).mono fun e W' ⟨v, r, hi, he, _, _, hr, hv, hbel⟩ => ?_
  subst he hr
  rw [hv.bool_inv]
  simp only [List.append_nil] at hW'
  exact ⟨_, rfl, _, _, _, [], _, [], hW', trodAll_mk1 (shut_bool Tryd.underlying4 _), trodAll_mk2 (harg0 _ hbel) (harg1 _ hbel), rfl, hbel.frame _, fun h => by cases h⟩
theorem over : Rows.fnExactRepoAtRow.holds Tryd.pinned (OpenSpec.ofChange Rows.fnExactRepoAtSpec) :=
  OpenClaim.holds_of_wide 4 Tryd.f4 rfl rfl rfl rfl rfl rfl rfl ⟨rfl, rfl, rfl, rfl, rfl⟩ rfl rfl rfl rfl rfl (by kernel_rfl) Tryd.func4 (by kernel_rfl)
    (of_decide_eq_true (by kernel_rfl)) (by unfold Func.isWrapper; first | (rw [if_pos (by decide +kernel)]; kernel_rfl) | (rw [if_neg (by decide +kernel)]; exact ⟨rfl, rfl⟩))
    (fun os started H enc _ => lifted os started H enc)
theorem proved : Rows.FnExactRepoAtCardSaid :=
  Claim7.holds_tied_plain_at .later [] [.data, .pinned] true (true, "f9ce0dae3fd1bd73ac97b134c86188927fcabc2fe4e5807e5a173b107dcbce80") false over (fun _ h => by cases h) (by kernel_rfl) (fun _ h => by cases h) fnExactRepoAt_row_tie rfl ⟨rfl, rfl⟩ (by kernel_rfl) rfl
    (fun f fn hf hfn => by
      obtain rfl : f = 4 := Option.some.inj ((show Tryd.prog.funcNamed "loop.example/stemma/laws.FnExactRepoAt" = some 4 by kernel_rfl).symm.trans hf) |>.symm
      obtain rfl : fn = Tryd.f4 := (Option.some.inj (Tryd.func4.symm.trans hfn)).symm
      exact ⟨by kernel_rfl, fun j t ht => by
        rw [Tryd.params4] at ht
        have hm : t ∈ [25, 9] := by simpa using Array.mem_of_getElem? ht
        have hall : ([25, 9].all fun u => !Tryd.prog.wantsStandIn u) = true := by kernel_rfl
        exact (show Tryd.prog.wantsStandIn t = false by simpa using List.all_eq_true.1 hall t hm)⟩)
    (by kernel_rfl)
end Go.Proofs.YtmcacnhmdfnpgaaDoor.fnExactRepoAt
namespace Go.Proofs.YtmcacnhmdfnpgaaDoor
theorem fnExactRepoAt_holds : Rows.FnExactRepoAtCardSaid := fnExactRepoAt.proved
#print axioms fnExactRepoAt_holds
end Go.Proofs.YtmcacnhmdfnpgaaDoor
