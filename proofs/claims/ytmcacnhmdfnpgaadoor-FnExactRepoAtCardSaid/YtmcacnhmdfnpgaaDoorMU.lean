/- Repositories: the plain law. -/
import Derived.Test.YtmcacnhmdfnpgaaDoorMT
import Derived.Test.YtmcacnhmdfnpgaaDoorMC
set_option linter.unusedSimpArgs false
set_option linter.unusedVariables false
namespace Go.AVM
structure CommitL where
  parents : List Int
  who : ByteArray
  tree : List FileL
  deriving DecidableEq
structure HeadL where
  name : ByteArray
  at_ : Int
  deriving DecidableEq
structure RepoL where
  commits : List CommitL
  heads : List HeadL
  deriving DecidableEq
/-- a commit's parents, behind so many commits -/
def parI (i : Nat) (ps : List Int) (k : Nat) (p : Int) : Bool := decide (0 ≤ p ∧ p ≤ (i : Int) - 1) && !(ps.take k).any (fun q => decide (p = q))
def parS (i : Nat) (ps : List Int) (k : Nat) (p : Int) : Bool := decide (0 ≤ p ∧ p ≤ (i : Int) - 1) && !(decide (0 < k) && ((ps[0]?).map fun q => decide (p = q)).getD false)
def parOk (ps : List Int) (i : Nat) : Bool := allI (parI i ps) ps && decide (ps.length ≤ 2)
def parOkS (ps : List Int) (i : Nat) : Bool := allI (parS i ps) ps && decide (ps.length ≤ 2)
theorem par_at (i : Nat) (ps : List Int) (h : ps.length ≤ 2) (k : Nat) (p : Int) (hp : ps[k]? = some p) : parS i ps k p = parI i ps k p := by
  unfold parS parI
  congr 2
  have hk := (List.getElem?_eq_some_iff.1 hp).1
  match ps, h, k, hk with
  | [a], _, 0, _ => simp
  | [a, b], _, 0, _ => simp
  | [a, b], _, 1, _ =>
    have : b = p := by simpa using hp
    subst this
    simp [eq_comm]
theorem parOkS_eq (ps : List Int) (i : Nat) : parOkS ps i = parOk ps i := by
  unfold parOkS parOk
  by_cases h : ps.length ≤ 2
  · congr 1
    rw [Bool.eq_iff_iff, allI_iff, allI_iff]
    exact forall_congr' fun k => forall_congr' fun p => imp_congr_right fun hp => by rw [par_at i ps h k p hp]
  · simp [h]
def commitOk (i : Nat) (c : CommitL) : Bool := parOk c.parents i && (nmOk c.who && treeOk c.tree)
def prevH (hs : List HeadL) (i : Nat) (h : HeadL) : Bool := decide (i = 0) || ((hs[i - 1]?).map fun g => sLt g.name h.name).getD true
def hOkI (n : Nat) (hs : List HeadL) (i : Nat) (h : HeadL) : Bool := nmOk h.name && (decide (0 ≤ h.at_ ∧ h.at_ ≤ (n : Int) - 1) && prevH hs i h)
def headsOk (hs : List HeadL) (n : Nat) : Bool := allI (hOkI n hs) hs && decide (hs.length ≤ 5)
def repoOk (r : RepoL) : Bool := allI commitOk r.commits && (decide (r.commits.length ≤ 16) && headsOk r.heads r.commits.length)
def AscH (t : List HeadL) : Prop := ∀ (i k : Nat) (a b : HeadL), i < k → t[i]? = some a → t[k]? = some b → sLt a.name b.name = true
theorem ascH_of {t : List HeadL} (h : ∀ j f, t[j]? = some f → prevH t j f = true) : AscH t := by
  intro i k
  revert i
  induction k with
  | zero => intro i a b hi; omega
  | succ k ih =>
    intro i a b hi ha hb
    have hk := (List.getElem?_eq_some_iff.1 hb).1
    have hc : t[k]? = some t[k] := List.getElem?_eq_getElem (by omega)
    have h1 := h (k + 1) b hb
    simp only [prevH, Nat.add_sub_cancel, hc, Option.map_some, Option.getD_some, Bool.or_eq_true, decide_eq_true_eq] at h1
    have h2 : sLt t[k].name b.name = true := by
      rcases h1 with h1 | h1
      · omega
      · exact h1
    by_cases hik : i = k
    · subst hik
      rw [hc] at ha
      obtain rfl := Option.some.inj ha
      exact h2
    · exact sLt_trans (ih i a t[k] (by omega) ha hc) h2
theorem repoOk_asc {r : RepoL} (h : repoOk r = true) : AscH r.heads := by
  simp only [repoOk, headsOk, Bool.and_eq_true] at h
  refine ascH_of fun j f hf => ?_
  have := allI_iff.1 h.2.2.1 j f hf
  simp only [hOkI, Bool.and_eq_true] at this
  exact this.2.2
/-- the commit that a branch is at -/
def tipH (hs : List HeadL) (name : ByteArray) : Int := ((hs.find? fun h => decide (h.name = name)).map HeadL.at_).getD (-1)
def repoAt (r : RepoL) (name : ByteArray) : Int := if repoOk r = true then tipH r.heads name else -1
end Go.AVM

/- Lists of numbers, and of heads: what the law's helpers give. -/
set_option linter.unusedSimpArgs false
set_option linter.unusedVariables false
namespace Go.AVM
def fillN : Int := -7000000000000000101
def roomyI (xs : List Int) : List Int := xs ++ List.replicate (rm xs.length) fillN
theorem st_iz {H : Hp} {d b i : Nat} {ys : List Int} {row ex : Bool} {x : Int} (hH : H d = some ⟨b, 1, ys.map iz, false, row, ex⟩) (hi : i < ys.length) :
    stv H none (iz x) (.optr d b 1 i none) = some (updH H d (some ⟨b, 1, (ys.set i x).map iz, false, row, ex⟩)) :=
  st_map iz hH hi rfl (fun _ => rfl) rfl rfl
theorem d_iz (H : Hp) (n : Int) : ldv H none (.lptr (iz n)) = some (iz n) := Eq.trans rfl rfl
theorem s_szIntS (xs : List Int) (k : Nat) (hk : k ≤ 1000000) (h : xs.length ≤ 9223372036854775807) : OK Go.Proofs.Tryd.prog 86 [ints xs, .int .i64 k] (fun _ _ r => SzR (xs.length ≤ 1000000) k r) := by
  refine fn_ok k86 rfl ?_
  generalize OK Go.Proofs.Tryd.prog = L
  intro lo
  by_cases hl : (k : Int) - xs.length < 0
  · simp -dsimp only [↓SD, SP, ↓reduceIte, Nat.reduceEqDiff, ini, frz, rdAo, rd3o, rd2o, rdpo, rd1o, fnv, intv, VOp.dst, getRo, solEo, solo, solo1, allsz, List.all_cons, List.all_nil, Bool.and_true, beq_self_eq_true, List.length_cons, List.length_nil, Nat.zero_add, srcv, Nat.le_refl, List.take_succ_cons, List.take_zero, and_self, if_true, Nat.reduceAdd, Nat.reduceLT, eq_self, c86, l_ints, wrap64 ((k : Int) - xs.length) (by omega), hl]
    exact ⟨_, rfl, by omega⟩
  · simp -dsimp only [↓SD, SP, ↓reduceIte, Nat.reduceEqDiff, ini, frz, rdAo, rd3o, rd2o, rdpo, rd1o, fnv, intv, VOp.dst, getRo, solEo, solo, solo1, allsz, List.all_cons, List.all_nil, Bool.and_true, beq_self_eq_true, List.length_cons, List.length_nil, Nat.zero_add, srcv, Nat.le_refl, List.take_succ_cons, List.take_zero, and_self, if_true, Nat.reduceAdd, Nat.reduceLT, eq_self, c86, l_ints, wrap64 ((k : Int) - xs.length) (by omega), hl]
    exact ⟨_, rfl, fun _ => ⟨by omega, k - xs.length, by omega, by omega⟩⟩
theorem s_toIntS0 (xs : List Int) (b : Bool) (h : xs.length ≤ 1000000) : OK Go.Proofs.Tryd.prog 90 [ints xs, .bool b]
    (fun lo hi r => if b = true ∧ xs = [] then r = .emp else ∃ g, lo ≤ g ∧ g < hi ∧ r = .lsl (some (g, 1)) xs.length ((roomyI xs).map iz)) := by
  refine fn_ok k90 rfl ?_
  have h54 := s54 xs.length h
  generalize OK Go.Proofs.Tryd.prog = L at h54 ⊢
  intro lo
  by_cases he : b = true ∧ xs = []
  · obtain ⟨rfl, rfl⟩ := he
    simp -dsimp only [↓SD, SP, ↓reduceIte, Nat.reduceEqDiff, ini, frz, rdAo, rd3o, rd2o, rdpo, rd1o, fnv, intv, VOp.dst, getRo, solEo, solo, solo1, allsz, List.all_cons, List.all_nil, Bool.and_true, beq_self_eq_true, List.length_cons, List.length_nil, Nat.zero_add, srcv, Nat.le_refl, List.take_succ_cons, List.take_zero, and_self, if_true, Nat.reduceAdd, Nat.reduceLT, eq_self, c90, l_ints, List.length_nil, Int.natCast_zero, and_self, and_true]
  · have hl : ¬ (b = true ∧ (xs.length : Int) = 0) := by
      simpa [List.length_eq_zero_iff] using he
    have rest : True := trivial
    simp only [if_neg he]
    have hrm := rm_le xs.length
    have hk := h
    have hl' : b = true → ¬ (xs.length : Int) = 0 := fun e h => hl ⟨e, h⟩
    cases b
    · simp -dsimp only [↓SD, SP, ↓reduceIte, Nat.reduceEqDiff, ini, frz, rdAo, rd3o, rd2o, rdpo, rd1o, fnv, intv, VOp.dst, getRo, solEo, solo, solo1, allsz, List.all_cons, List.all_nil, Bool.and_true, beq_self_eq_true, List.length_cons, List.length_nil, Nat.zero_add, srcv, Nat.le_refl, List.take_succ_cons, List.take_zero, and_self, if_true, Nat.reduceAdd, Nat.reduceLT, eq_self, c90, l_ints]
      refine call_rule h54 ?_
      rintro lo' hi r g1 g2 rfl
      simp -dsimp only [↓SD, SP, ↓reduceIte, Nat.reduceEqDiff, ini, frz, rdAo, rd3o, rd2o, rdpo, rd1o, fnv, intv, VOp.dst, getRo, solEo, solo, solo1, allsz, List.all_cons, List.all_nil, Bool.and_true, beq_self_eq_true, List.length_cons, List.length_nil, Nat.zero_add, srcv, Nat.le_refl, List.take_succ_cons, List.take_zero, and_self, if_true, Nat.reduceAdd, Nat.reduceLT, eq_self, wrap64 ((xs.length : Int) + rm xs.length) (by omega)]
      refine mk_at (by omega) ?_
      intro g hg
      simp -dsimp only [↓SD, SP, ↓reduceIte, Nat.reduceEqDiff, ini, frz, rdAo, rd3o, rd2o, rdpo, rd1o, fnv, intv, VOp.dst, getRo, solEo, solo, solo1, allsz, List.all_cons, List.all_nil, Bool.and_true, beq_self_eq_true, List.length_cons, List.length_nil, Nat.zero_add, srcv, Nat.le_refl, List.take_succ_cons, List.take_zero, and_self, if_true, Nat.reduceAdd, Nat.reduceLT, eq_self]
      refine loop_rule (fun m E H n => ∃ i : Nat, m + i = xs.length ∧ E 0 = ints xs ∧ E 5 = .own 20 g 1 (xs.length + rm xs.length) ∧ E 6 = .int .i64 i ∧ n = g + 1 ∧
          H 20 = some ⟨g, 1, (xs.take i ++ List.replicate (m + rm xs.length) (0 : Int)).map iz, false, true, true⟩)
        (fun e E H n => e = .exit 0 ∧ E 0 = ints xs ∧ E 5 = .own 20 g 1 (xs.length + rm xs.length) ∧ n = g + 1 ∧ H 20 = some ⟨g, 1, (xs ++ List.replicate (rm xs.length) (0 : Int)).map iz, false, true, true⟩)
        xs.length ⟨0, rfl, rfl, ?_, rfl, rfl, ?_⟩ ?_ ?_
      · simp -dsimp only [↓SD, SP, ↓reduceIte, Nat.reduceEqDiff, ini, frz, rdAo, rd3o, rd2o, rdpo, rd1o, fnv, intv, VOp.dst, getRo, solEo, solo, solo1, allsz, List.all_cons, List.all_nil, Bool.and_true, beq_self_eq_true, List.length_cons, List.length_nil, Nat.zero_add, srcv, Nat.le_refl, List.take_succ_cons, List.take_zero, and_self, if_true, Nat.reduceAdd, Nat.reduceLT, eq_self, show ((xs.length : Int) + rm xs.length).toNat = xs.length + rm xs.length by omega]
      · simp -dsimp only [↓SD, SP, ↓reduceIte, Nat.reduceEqDiff, ini, frz, rdAo, rd3o, rd2o, rdpo, rd1o, fnv, intv, VOp.dst, getRo, solEo, solo, solo1, allsz, List.all_cons, List.all_nil, Bool.and_true, beq_self_eq_true, List.length_cons, List.length_nil, Nat.zero_add, srcv, Nat.le_refl, List.take_succ_cons, List.take_zero, and_self, if_true, Nat.reduceAdd, Nat.reduceLT, eq_self, show ((xs.length : Int) + rm xs.length).toNat = xs.length + rm xs.length by omega, List.take_zero, List.map_replicate]
      · rintro e E H n ⟨rfl, h0, h5, rfl, hH⟩
        simp -dsimp only [↓SD, SP, ↓reduceIte, Nat.reduceEqDiff, ini, frz, rdAo, rd3o, rd2o, rdpo, rd1o, fnv, intv, VOp.dst, getRo, solEo, solo, solo1, allsz, List.all_cons, List.all_nil, Bool.and_true, beq_self_eq_true, List.length_cons, List.length_nil, Nat.zero_add, srcv, Nat.le_refl, List.take_succ_cons, List.take_zero, and_self, if_true, Nat.reduceAdd, Nat.reduceLT, eq_self, h0, l_ints]
        refine loop_rule (fun m E H n => ∃ k : Nat, m + k = rm xs.length ∧ E 0 = ints xs ∧ E 5 = .own 20 g 1 (xs.length + rm xs.length) ∧ E 7 = .int .i64 (xs.length + k : Nat) ∧ n = g + 1 ∧
            H 20 = some ⟨g, 1, (xs ++ List.replicate k fillN ++ List.replicate m (0 : Int)).map iz, false, true, true⟩)
          (fun e E H n => e = .exit 2 ∧ E 0 = ints xs ∧ E 5 = .own 20 g 1 (xs.length + rm xs.length) ∧ n = g + 1 ∧ H 20 = some ⟨g, 1, (roomyI xs).map iz, false, true, true⟩)
          (rm xs.length) ⟨0, rfl, ?_, ?_, ?_, rfl, ?_⟩ ?_ ?_
        · simp -dsimp only [↓SD, SP, ↓reduceIte, Nat.reduceEqDiff, ini, frz, rdAo, rd3o, rd2o, rdpo, rd1o, fnv, intv, VOp.dst, getRo, solEo, solo, solo1, allsz, List.all_cons, List.all_nil, Bool.and_true, beq_self_eq_true, List.length_cons, List.length_nil, Nat.zero_add, srcv, Nat.le_refl, List.take_succ_cons, List.take_zero, and_self, if_true, Nat.reduceAdd, Nat.reduceLT, eq_self, h0]
        · simp -dsimp only [↓SD, SP, ↓reduceIte, Nat.reduceEqDiff, ini, frz, rdAo, rd3o, rd2o, rdpo, rd1o, fnv, intv, VOp.dst, getRo, solEo, solo, solo1, allsz, List.all_cons, List.all_nil, Bool.and_true, beq_self_eq_true, List.length_cons, List.length_nil, Nat.zero_add, srcv, Nat.le_refl, List.take_succ_cons, List.take_zero, and_self, if_true, Nat.reduceAdd, Nat.reduceLT, eq_self, h5]
        · simp -dsimp only [↓SD, SP, ↓reduceIte, Nat.reduceEqDiff, ini, frz, rdAo, rd3o, rd2o, rdpo, rd1o, fnv, intv, VOp.dst, getRo, solEo, solo, solo1, allsz, List.all_cons, List.all_nil, Bool.and_true, beq_self_eq_true, List.length_cons, List.length_nil, Nat.zero_add, srcv, Nat.le_refl, List.take_succ_cons, List.take_zero, and_self, if_true, Nat.reduceAdd, Nat.reduceLT, eq_self, Nat.add_zero]
        · simp -dsimp only [↓SD, SP, ↓reduceIte, Nat.reduceEqDiff, ini, frz, rdAo, rd3o, rd2o, rdpo, rd1o, fnv, intv, VOp.dst, getRo, solEo, solo, solo1, allsz, List.all_cons, List.all_nil, Bool.and_true, beq_self_eq_true, List.length_cons, List.length_nil, Nat.zero_add, srcv, Nat.le_refl, List.take_succ_cons, List.take_zero, and_self, if_true, Nat.reduceAdd, Nat.reduceLT, eq_self, hH, List.replicate_zero]
        · rintro e E H n ⟨rfl, h0, h5, rfl, hH⟩
          have hroom : (roomyI xs).length = xs.length + rm xs.length := by simp [roomyI]
          have hsl : slcv H 1 (.own 20 g 1 (xs.length + rm xs.length)) none (some (.int .i64 xs.length)) = some (.own 20 g 1 xs.length) := by
            simp [slcv, hH, hroom]
          simp -dsimp only [↓SD, SP, ↓reduceIte, Nat.reduceEqDiff, ini, frz, rdAo, rd3o, rd2o, rdpo, rd1o, fnv, intv, VOp.dst, getRo, solEo, solo, solo1, allsz, List.all_cons, List.all_nil, Bool.and_true, beq_self_eq_true, List.length_cons, List.length_nil, Nat.zero_add, srcv, Nat.le_refl, List.take_succ_cons, List.take_zero, and_self, if_true, Nat.reduceAdd, Nat.reduceLT, eq_self, h0, h5, l_ints, hsl, hH, List.length_map, hroom, Nat.le_add_right, and_self]
          exact ⟨g, by omega, by omega, rfl⟩
        · rintro m E H n Q K ⟨k, hm, h0, h5, h7, rfl, hH⟩ hQ hK
          cases m with
          | zero =>
            obtain rfl : k = rm xs.length := by omega
            simp -dsimp only [↓SD, SP, ↓reduceIte, Nat.reduceEqDiff, ini, frz, rdAo, rd3o, rd2o, rdpo, rd1o, fnv, intv, VOp.dst, getRo, solEo, solo, solo1, allsz, List.all_cons, List.all_nil, Bool.and_true, beq_self_eq_true, List.length_cons, List.length_nil, Nat.zero_add, srcv, Nat.le_refl, List.take_succ_cons, List.take_zero, and_self, if_true, Nat.reduceAdd, Nat.reduceLT, eq_self, h0, h5, h7, Int.ofNat_lt, Nat.lt_irrefl]
            refine hQ _ _ _ _ ⟨rfl, h0, h5, rfl, ?_⟩
            rw [hH]
            simp [roomyI]
          | succ m =>
            simp -dsimp only [↓SD, SP, ↓reduceIte, Nat.reduceEqDiff, ini, frz, rdAo, rd3o, rd2o, rdpo, rd1o, fnv, intv, VOp.dst, getRo, solEo, solo, solo1, allsz, List.all_cons, List.all_nil, Bool.and_true, beq_self_eq_true, List.length_cons, List.length_nil, Nat.zero_add, srcv, Nat.le_refl, List.take_succ_cons, List.take_zero, and_self, if_true, Nat.reduceAdd, Nat.reduceLT, eq_self, h0, h5, h7, Int.ofNat_lt, show xs.length + k < xs.length + rm xs.length by omega, x_own _ _ _ _ _ (show xs.length + k < xs.length + rm xs.length by omega), st_iz (i := xs.length + k) hH (by simp), wrap64 (((xs.length + k : Nat) : Int) + 1) (by omega)]
            refine hK m _ _ _ rfl ⟨k + 1, by omega, ?_, ?_, ?_, rfl, ?_⟩
            · simp -dsimp only [↓SD, SP, ↓reduceIte, Nat.reduceEqDiff, ini, frz, rdAo, rd3o, rd2o, rdpo, rd1o, fnv, intv, VOp.dst, getRo, solEo, solo, solo1, allsz, List.all_cons, List.all_nil, Bool.and_true, beq_self_eq_true, List.length_cons, List.length_nil, Nat.zero_add, srcv, Nat.le_refl, List.take_succ_cons, List.take_zero, and_self, if_true, Nat.reduceAdd, Nat.reduceLT, eq_self, h0]
            · simp -dsimp only [↓SD, SP, ↓reduceIte, Nat.reduceEqDiff, ini, frz, rdAo, rd3o, rd2o, rdpo, rd1o, fnv, intv, VOp.dst, getRo, solEo, solo, solo1, allsz, List.all_cons, List.all_nil, Bool.and_true, beq_self_eq_true, List.length_cons, List.length_nil, Nat.zero_add, srcv, Nat.le_refl, List.take_succ_cons, List.take_zero, and_self, if_true, Nat.reduceAdd, Nat.reduceLT, eq_self, h5]
            · simp -dsimp only [↓SD, SP, ↓reduceIte, Nat.reduceEqDiff, ini, frz, rdAo, rd3o, rd2o, rdpo, rd1o, fnv, intv, VOp.dst, getRo, solEo, solo, solo1, allsz, List.all_cons, List.all_nil, Bool.and_true, beq_self_eq_true, List.length_cons, List.length_nil, Nat.zero_add, srcv, Nat.le_refl, List.take_succ_cons, List.take_zero, and_self, if_true, Nat.reduceAdd, Nat.reduceLT, eq_self, show ((xs.length + k : Nat) : Int) + 1 = ((xs.length + (k + 1) : Nat) : Int) by omega]
            · simp -dsimp only [↓SD, SP, ↓reduceIte, Nat.reduceEqDiff, ini, frz, rdAo, rd3o, rd2o, rdpo, rd1o, fnv, intv, VOp.dst, getRo, solEo, solo, solo1, allsz, List.all_cons, List.all_nil, Bool.and_true, beq_self_eq_true, List.length_cons, List.length_nil, Nat.zero_add, srcv, Nat.le_refl, List.take_succ_cons, List.take_zero, and_self, if_true, Nat.reduceAdd, Nat.reduceLT, eq_self]
              rw [← set_rep]
              rfl
      · rintro m E H n Q K ⟨i, hm, h0, h5, h6, rfl, hH⟩ hQ hK
        cases m with
        | zero =>
          obtain rfl : i = xs.length := by omega
          simp -dsimp only [↓SD, SP, ↓reduceIte, Nat.reduceEqDiff, ini, frz, rdAo, rd3o, rd2o, rdpo, rd1o, fnv, intv, VOp.dst, getRo, solEo, solo, solo1, allsz, List.all_cons, List.all_nil, Bool.and_true, beq_self_eq_true, List.length_cons, List.length_nil, Nat.zero_add, srcv, Nat.le_refl, List.take_succ_cons, List.take_zero, and_self, if_true, Nat.reduceAdd, Nat.reduceLT, eq_self, h0, h5, h6, l_ints, Int.ofNat_lt, Nat.lt_irrefl]
          refine hQ _ _ _ _ ⟨rfl, h0, h5, rfl, ?_⟩
          rw [hH]
          simp
        | succ m =>
          have hi : i < xs.length := by omega
          simp -dsimp only [↓SD, SP, ↓reduceIte, Nat.reduceEqDiff, ini, frz, rdAo, rd3o, rd2o, rdpo, rd1o, fnv, intv, VOp.dst, getRo, solEo, solo, solo1, allsz, List.all_cons, List.all_nil, Bool.and_true, beq_self_eq_true, List.length_cons, List.length_nil, Nat.zero_add, srcv, Nat.le_refl, List.take_succ_cons, List.take_zero, and_self, if_true, Nat.reduceAdd, Nat.reduceLT, eq_self, h0, h5, h6, l_ints, Int.ofNat_lt, hi, x_ints _ _ hi, x_own _ _ _ _ _ (show i < xs.length + rm xs.length by omega), st_iz (i := i) hH (by simp; omega), wrap64 ((i : Int) + 1) (by omega)]
          refine hK m _ _ _ rfl ⟨i + 1, by omega, ?_, ?_, ?_, rfl, ?_⟩
          · simp -dsimp only [↓SD, SP, ↓reduceIte, Nat.reduceEqDiff, ini, frz, rdAo, rd3o, rd2o, rdpo, rd1o, fnv, intv, VOp.dst, getRo, solEo, solo, solo1, allsz, List.all_cons, List.all_nil, Bool.and_true, beq_self_eq_true, List.length_cons, List.length_nil, Nat.zero_add, srcv, Nat.le_refl, List.take_succ_cons, List.take_zero, and_self, if_true, Nat.reduceAdd, Nat.reduceLT, eq_self, h0]
          · simp -dsimp only [↓SD, SP, ↓reduceIte, Nat.reduceEqDiff, ini, frz, rdAo, rd3o, rd2o, rdpo, rd1o, fnv, intv, VOp.dst, getRo, solEo, solo, solo1, allsz, List.all_cons, List.all_nil, Bool.and_true, beq_self_eq_true, List.length_cons, List.length_nil, Nat.zero_add, srcv, Nat.le_refl, List.take_succ_cons, List.take_zero, and_self, if_true, Nat.reduceAdd, Nat.reduceLT, eq_self, h5]
          · simp -dsimp only [↓SD, SP, ↓reduceIte, Nat.reduceEqDiff, ini, frz, rdAo, rd3o, rd2o, rdpo, rd1o, fnv, intv, VOp.dst, getRo, solEo, solo, solo1, allsz, List.all_cons, List.all_nil, Bool.and_true, beq_self_eq_true, List.length_cons, List.length_nil, Nat.zero_add, srcv, Nat.le_refl, List.take_succ_cons, List.take_zero, and_self, if_true, Nat.reduceAdd, Nat.reduceLT, eq_self, Int.natCast_add, Int.natCast_one]
          · simp -dsimp only [↓SD, SP, ↓reduceIte, Nat.reduceEqDiff, ini, frz, rdAo, rd3o, rd2o, rdpo, rd1o, fnv, intv, VOp.dst, getRo, solEo, solo, solo1, allsz, List.all_cons, List.all_nil, Bool.and_true, beq_self_eq_true, List.length_cons, List.length_nil, Nat.zero_add, srcv, Nat.le_refl, List.take_succ_cons, List.take_zero, and_self, if_true, Nat.reduceAdd, Nat.reduceLT, eq_self]
            rw [show m + 1 + rm xs.length = (m + rm xs.length) + 1 by omega, set_take hi]
    · simp -dsimp only [↓SD, SP, ↓reduceIte, Nat.reduceEqDiff, ini, frz, rdAo, rd3o, rd2o, rdpo, rd1o, fnv, intv, VOp.dst, getRo, solEo, solo, solo1, allsz, List.all_cons, List.all_nil, Bool.and_true, beq_self_eq_true, List.length_cons, List.length_nil, Nat.zero_add, srcv, Nat.le_refl, List.take_succ_cons, List.take_zero, and_self, if_true, Nat.reduceAdd, Nat.reduceLT, eq_self, c90, l_ints, hl' rfl]
      refine call_rule h54 ?_
      rintro lo' hi r g1 g2 rfl
      simp -dsimp only [↓SD, SP, ↓reduceIte, Nat.reduceEqDiff, ini, frz, rdAo, rd3o, rd2o, rdpo, rd1o, fnv, intv, VOp.dst, getRo, solEo, solo, solo1, allsz, List.all_cons, List.all_nil, Bool.and_true, beq_self_eq_true, List.length_cons, List.length_nil, Nat.zero_add, srcv, Nat.le_refl, List.take_succ_cons, List.take_zero, and_self, if_true, Nat.reduceAdd, Nat.reduceLT, eq_self, wrap64 ((xs.length : Int) + rm xs.length) (by omega)]
      refine mk_at (by omega) ?_
      intro g hg
      simp -dsimp only [↓SD, SP, ↓reduceIte, Nat.reduceEqDiff, ini, frz, rdAo, rd3o, rd2o, rdpo, rd1o, fnv, intv, VOp.dst, getRo, solEo, solo, solo1, allsz, List.all_cons, List.all_nil, Bool.and_true, beq_self_eq_true, List.length_cons, List.length_nil, Nat.zero_add, srcv, Nat.le_refl, List.take_succ_cons, List.take_zero, and_self, if_true, Nat.reduceAdd, Nat.reduceLT, eq_self]
      refine loop_rule (fun m E H n => ∃ i : Nat, m + i = xs.length ∧ E 0 = ints xs ∧ E 5 = .own 20 g 1 (xs.length + rm xs.length) ∧ E 6 = .int .i64 i ∧ n = g + 1 ∧
          H 20 = some ⟨g, 1, (xs.take i ++ List.replicate (m + rm xs.length) (0 : Int)).map iz, false, true, true⟩)
        (fun e E H n => e = .exit 0 ∧ E 0 = ints xs ∧ E 5 = .own 20 g 1 (xs.length + rm xs.length) ∧ n = g + 1 ∧ H 20 = some ⟨g, 1, (xs ++ List.replicate (rm xs.length) (0 : Int)).map iz, false, true, true⟩)
        xs.length ⟨0, rfl, rfl, ?_, rfl, rfl, ?_⟩ ?_ ?_
      · simp -dsimp only [↓SD, SP, ↓reduceIte, Nat.reduceEqDiff, ini, frz, rdAo, rd3o, rd2o, rdpo, rd1o, fnv, intv, VOp.dst, getRo, solEo, solo, solo1, allsz, List.all_cons, List.all_nil, Bool.and_true, beq_self_eq_true, List.length_cons, List.length_nil, Nat.zero_add, srcv, Nat.le_refl, List.take_succ_cons, List.take_zero, and_self, if_true, Nat.reduceAdd, Nat.reduceLT, eq_self, show ((xs.length : Int) + rm xs.length).toNat = xs.length + rm xs.length by omega]
      · simp -dsimp only [↓SD, SP, ↓reduceIte, Nat.reduceEqDiff, ini, frz, rdAo, rd3o, rd2o, rdpo, rd1o, fnv, intv, VOp.dst, getRo, solEo, solo, solo1, allsz, List.all_cons, List.all_nil, Bool.and_true, beq_self_eq_true, List.length_cons, List.length_nil, Nat.zero_add, srcv, Nat.le_refl, List.take_succ_cons, List.take_zero, and_self, if_true, Nat.reduceAdd, Nat.reduceLT, eq_self, show ((xs.length : Int) + rm xs.length).toNat = xs.length + rm xs.length by omega, List.take_zero, List.map_replicate]
      · rintro e E H n ⟨rfl, h0, h5, rfl, hH⟩
        simp -dsimp only [↓SD, SP, ↓reduceIte, Nat.reduceEqDiff, ini, frz, rdAo, rd3o, rd2o, rdpo, rd1o, fnv, intv, VOp.dst, getRo, solEo, solo, solo1, allsz, List.all_cons, List.all_nil, Bool.and_true, beq_self_eq_true, List.length_cons, List.length_nil, Nat.zero_add, srcv, Nat.le_refl, List.take_succ_cons, List.take_zero, and_self, if_true, Nat.reduceAdd, Nat.reduceLT, eq_self, h0, l_ints]
        refine loop_rule (fun m E H n => ∃ k : Nat, m + k = rm xs.length ∧ E 0 = ints xs ∧ E 5 = .own 20 g 1 (xs.length + rm xs.length) ∧ E 7 = .int .i64 (xs.length + k : Nat) ∧ n = g + 1 ∧
            H 20 = some ⟨g, 1, (xs ++ List.replicate k fillN ++ List.replicate m (0 : Int)).map iz, false, true, true⟩)
          (fun e E H n => e = .exit 2 ∧ E 0 = ints xs ∧ E 5 = .own 20 g 1 (xs.length + rm xs.length) ∧ n = g + 1 ∧ H 20 = some ⟨g, 1, (roomyI xs).map iz, false, true, true⟩)
          (rm xs.length) ⟨0, rfl, ?_, ?_, ?_, rfl, ?_⟩ ?_ ?_
        · simp -dsimp only [↓SD, SP, ↓reduceIte, Nat.reduceEqDiff, ini, frz, rdAo, rd3o, rd2o, rdpo, rd1o, fnv, intv, VOp.dst, getRo, solEo, solo, solo1, allsz, List.all_cons, List.all_nil, Bool.and_true, beq_self_eq_true, List.length_cons, List.length_nil, Nat.zero_add, srcv, Nat.le_refl, List.take_succ_cons, List.take_zero, and_self, if_true, Nat.reduceAdd, Nat.reduceLT, eq_self, h0]
        · simp -dsimp only [↓SD, SP, ↓reduceIte, Nat.reduceEqDiff, ini, frz, rdAo, rd3o, rd2o, rdpo, rd1o, fnv, intv, VOp.dst, getRo, solEo, solo, solo1, allsz, List.all_cons, List.all_nil, Bool.and_true, beq_self_eq_true, List.length_cons, List.length_nil, Nat.zero_add, srcv, Nat.le_refl, List.take_succ_cons, List.take_zero, and_self, if_true, Nat.reduceAdd, Nat.reduceLT, eq_self, h5]
        · simp -dsimp only [↓SD, SP, ↓reduceIte, Nat.reduceEqDiff, ini, frz, rdAo, rd3o, rd2o, rdpo, rd1o, fnv, intv, VOp.dst, getRo, solEo, solo, solo1, allsz, List.all_cons, List.all_nil, Bool.and_true, beq_self_eq_true, List.length_cons, List.length_nil, Nat.zero_add, srcv, Nat.le_refl, List.take_succ_cons, List.take_zero, and_self, if_true, Nat.reduceAdd, Nat.reduceLT, eq_self, Nat.add_zero]
        · simp -dsimp only [↓SD, SP, ↓reduceIte, Nat.reduceEqDiff, ini, frz, rdAo, rd3o, rd2o, rdpo, rd1o, fnv, intv, VOp.dst, getRo, solEo, solo, solo1, allsz, List.all_cons, List.all_nil, Bool.and_true, beq_self_eq_true, List.length_cons, List.length_nil, Nat.zero_add, srcv, Nat.le_refl, List.take_succ_cons, List.take_zero, and_self, if_true, Nat.reduceAdd, Nat.reduceLT, eq_self, hH, List.replicate_zero]
        · rintro e E H n ⟨rfl, h0, h5, rfl, hH⟩
          have hroom : (roomyI xs).length = xs.length + rm xs.length := by simp [roomyI]
          have hsl : slcv H 1 (.own 20 g 1 (xs.length + rm xs.length)) none (some (.int .i64 xs.length)) = some (.own 20 g 1 xs.length) := by
            simp [slcv, hH, hroom]
          simp -dsimp only [↓SD, SP, ↓reduceIte, Nat.reduceEqDiff, ini, frz, rdAo, rd3o, rd2o, rdpo, rd1o, fnv, intv, VOp.dst, getRo, solEo, solo, solo1, allsz, List.all_cons, List.all_nil, Bool.and_true, beq_self_eq_true, List.length_cons, List.length_nil, Nat.zero_add, srcv, Nat.le_refl, List.take_succ_cons, List.take_zero, and_self, if_true, Nat.reduceAdd, Nat.reduceLT, eq_self, h0, h5, l_ints, hsl, hH, List.length_map, hroom, Nat.le_add_right, and_self]
          exact ⟨g, by omega, by omega, rfl⟩
        · rintro m E H n Q K ⟨k, hm, h0, h5, h7, rfl, hH⟩ hQ hK
          cases m with
          | zero =>
            obtain rfl : k = rm xs.length := by omega
            simp -dsimp only [↓SD, SP, ↓reduceIte, Nat.reduceEqDiff, ini, frz, rdAo, rd3o, rd2o, rdpo, rd1o, fnv, intv, VOp.dst, getRo, solEo, solo, solo1, allsz, List.all_cons, List.all_nil, Bool.and_true, beq_self_eq_true, List.length_cons, List.length_nil, Nat.zero_add, srcv, Nat.le_refl, List.take_succ_cons, List.take_zero, and_self, if_true, Nat.reduceAdd, Nat.reduceLT, eq_self, h0, h5, h7, Int.ofNat_lt, Nat.lt_irrefl]
            refine hQ _ _ _ _ ⟨rfl, h0, h5, rfl, ?_⟩
            rw [hH]
            simp [roomyI]
          | succ m =>
            simp -dsimp only [↓SD, SP, ↓reduceIte, Nat.reduceEqDiff, ini, frz, rdAo, rd3o, rd2o, rdpo, rd1o, fnv, intv, VOp.dst, getRo, solEo, solo, solo1, allsz, List.all_cons, List.all_nil, Bool.and_true, beq_self_eq_true, List.length_cons, List.length_nil, Nat.zero_add, srcv, Nat.le_refl, List.take_succ_cons, List.take_zero, and_self, if_true, Nat.reduceAdd, Nat.reduceLT, eq_self, h0, h5, h7, Int.ofNat_lt, show xs.length + k < xs.length + rm xs.length by omega, x_own _ _ _ _ _ (show xs.length + k < xs.length + rm xs.length by omega), st_iz (i := xs.length + k) hH (by simp), wrap64 (((xs.length + k : Nat) : Int) + 1) (by omega)]
            refine hK m _ _ _ rfl ⟨k + 1, by omega, ?_, ?_, ?_, rfl, ?_⟩
            · simp -dsimp only [↓SD, SP, ↓reduceIte, Nat.reduceEqDiff, ini, frz, rdAo, rd3o, rd2o, rdpo, rd1o, fnv, intv, VOp.dst, getRo, solEo, solo, solo1, allsz, List.all_cons, List.all_nil, Bool.and_true, beq_self_eq_true, List.length_cons, List.length_nil, Nat.zero_add, srcv, Nat.le_refl, List.take_succ_cons, List.take_zero, and_self, if_true, Nat.reduceAdd, Nat.reduceLT, eq_self, h0]
            · simp -dsimp only [↓SD, SP, ↓reduceIte, Nat.reduceEqDiff, ini, frz, rdAo, rd3o, rd2o, rdpo, rd1o, fnv, intv, VOp.dst, getRo, solEo, solo, solo1, allsz, List.all_cons, List.all_nil, Bool.and_true, beq_self_eq_true, List.length_cons, List.length_nil, Nat.zero_add, srcv, Nat.le_refl, List.take_succ_cons, List.take_zero, and_self, if_true, Nat.reduceAdd, Nat.reduceLT, eq_self, h5]
            · simp -dsimp only [↓SD, SP, ↓reduceIte, Nat.reduceEqDiff, ini, frz, rdAo, rd3o, rd2o, rdpo, rd1o, fnv, intv, VOp.dst, getRo, solEo, solo, solo1, allsz, List.all_cons, List.all_nil, Bool.and_true, beq_self_eq_true, List.length_cons, List.length_nil, Nat.zero_add, srcv, Nat.le_refl, List.take_succ_cons, List.take_zero, and_self, if_true, Nat.reduceAdd, Nat.reduceLT, eq_self, show ((xs.length + k : Nat) : Int) + 1 = ((xs.length + (k + 1) : Nat) : Int) by omega]
            · simp -dsimp only [↓SD, SP, ↓reduceIte, Nat.reduceEqDiff, ini, frz, rdAo, rd3o, rd2o, rdpo, rd1o, fnv, intv, VOp.dst, getRo, solEo, solo, solo1, allsz, List.all_cons, List.all_nil, Bool.and_true, beq_self_eq_true, List.length_cons, List.length_nil, Nat.zero_add, srcv, Nat.le_refl, List.take_succ_cons, List.take_zero, and_self, if_true, Nat.reduceAdd, Nat.reduceLT, eq_self]
              rw [← set_rep]
              rfl
      · rintro m E H n Q K ⟨i, hm, h0, h5, h6, rfl, hH⟩ hQ hK
        cases m with
        | zero =>
          obtain rfl : i = xs.length := by omega
          simp -dsimp only [↓SD, SP, ↓reduceIte, Nat.reduceEqDiff, ini, frz, rdAo, rd3o, rd2o, rdpo, rd1o, fnv, intv, VOp.dst, getRo, solEo, solo, solo1, allsz, List.all_cons, List.all_nil, Bool.and_true, beq_self_eq_true, List.length_cons, List.length_nil, Nat.zero_add, srcv, Nat.le_refl, List.take_succ_cons, List.take_zero, and_self, if_true, Nat.reduceAdd, Nat.reduceLT, eq_self, h0, h5, h6, l_ints, Int.ofNat_lt, Nat.lt_irrefl]
          refine hQ _ _ _ _ ⟨rfl, h0, h5, rfl, ?_⟩
          rw [hH]
          simp
        | succ m =>
          have hi : i < xs.length := by omega
          simp -dsimp only [↓SD, SP, ↓reduceIte, Nat.reduceEqDiff, ini, frz, rdAo, rd3o, rd2o, rdpo, rd1o, fnv, intv, VOp.dst, getRo, solEo, solo, solo1, allsz, List.all_cons, List.all_nil, Bool.and_true, beq_self_eq_true, List.length_cons, List.length_nil, Nat.zero_add, srcv, Nat.le_refl, List.take_succ_cons, List.take_zero, and_self, if_true, Nat.reduceAdd, Nat.reduceLT, eq_self, h0, h5, h6, l_ints, Int.ofNat_lt, hi, x_ints _ _ hi, x_own _ _ _ _ _ (show i < xs.length + rm xs.length by omega), st_iz (i := i) hH (by simp; omega), wrap64 ((i : Int) + 1) (by omega)]
          refine hK m _ _ _ rfl ⟨i + 1, by omega, ?_, ?_, ?_, rfl, ?_⟩
          · simp -dsimp only [↓SD, SP, ↓reduceIte, Nat.reduceEqDiff, ini, frz, rdAo, rd3o, rd2o, rdpo, rd1o, fnv, intv, VOp.dst, getRo, solEo, solo, solo1, allsz, List.all_cons, List.all_nil, Bool.and_true, beq_self_eq_true, List.length_cons, List.length_nil, Nat.zero_add, srcv, Nat.le_refl, List.take_succ_cons, List.take_zero, and_self, if_true, Nat.reduceAdd, Nat.reduceLT, eq_self, h0]
          · simp -dsimp only [↓SD, SP, ↓reduceIte, Nat.reduceEqDiff, ini, frz, rdAo, rd3o, rd2o, rdpo, rd1o, fnv, intv, VOp.dst, getRo, solEo, solo, solo1, allsz, List.all_cons, List.all_nil, Bool.and_true, beq_self_eq_true, List.length_cons, List.length_nil, Nat.zero_add, srcv, Nat.le_refl, List.take_succ_cons, List.take_zero, and_self, if_true, Nat.reduceAdd, Nat.reduceLT, eq_self, h5]
          · simp -dsimp only [↓SD, SP, ↓reduceIte, Nat.reduceEqDiff, ini, frz, rdAo, rd3o, rd2o, rdpo, rd1o, fnv, intv, VOp.dst, getRo, solEo, solo, solo1, allsz, List.all_cons, List.all_nil, Bool.and_true, beq_self_eq_true, List.length_cons, List.length_nil, Nat.zero_add, srcv, Nat.le_refl, List.take_succ_cons, List.take_zero, and_self, if_true, Nat.reduceAdd, Nat.reduceLT, eq_self, Int.natCast_add, Int.natCast_one]
          · simp -dsimp only [↓SD, SP, ↓reduceIte, Nat.reduceEqDiff, ini, frz, rdAo, rd3o, rd2o, rdpo, rd1o, fnv, intv, VOp.dst, getRo, solEo, solo, solo1, allsz, List.all_cons, List.all_nil, Bool.and_true, beq_self_eq_true, List.length_cons, List.length_nil, Nat.zero_add, srcv, Nat.le_refl, List.take_succ_cons, List.take_zero, and_self, if_true, Nat.reduceAdd, Nat.reduceLT, eq_self]
            rw [show m + 1 + rm xs.length = (m + rm xs.length) + 1 by omega, set_take hi]

theorem rd_emptyI (H : Hp) : rd3o false H .emp = some (ints [], []) := by
  simp [ints, rd3o, rd2o, rdpo, rd1o]
def IsInt (lo hi : Nat) (xs : List Int) (r : AV) : Prop := (xs = [] ∧ r = .emp) ∨ ∃ g, lo ≤ g ∧ g < hi ∧ r = .lsl (some (g, 1)) xs.length ((roomyI xs).map iz)
theorem s_toIntS (xs : List Int) (b : Bool) (h : xs.length ≤ 1000000) : OK Go.Proofs.Tryd.prog 90 [ints xs, .bool b] (fun lo hi r => IsInt lo hi xs r ∧ (b = false → ∃ g, lo ≤ g ∧ g < hi ∧ r = .lsl (some (g, 1)) xs.length ((roomyI xs).map iz))) :=
  (s_toIntS0 xs b h).weak fun lo hi r hr => by
    by_cases hc : b = true ∧ xs = []
    · rw [if_pos hc] at hr
      exact ⟨.inl ⟨hc.2, hr⟩, fun hb => by rw [hb] at hc; cases hc.1⟩
    · rw [if_neg hc] at hr
      exact ⟨.inr hr, fun _ => hr⟩
def intsF (xs : List Int) : AV := .lsl none xs.length ((roomyI xs).map iz)
theorem tagsL_iz (xs : List Int) : tagsL (xs.map iz) = [] := by
  induction xs with
  | nil => rfl
  | cons x xs ih => simp [tagsL, iz, tags, ih]
theorem IsInt.wk {lo hi : Nat} {xs : List Int} {r : AV} (h : IsInt lo hi xs r) : Wk r (ints xs) := by
  rcases h with ⟨rfl, rfl⟩ | ⟨g, _, _, rfl⟩
  · exact .emp
  · refine .lsl _ _ _ _ (by simp) (by simp [roomyI]) fun i x y hx hy => ?_
    rw [List.getElem?_map] at hx hy
    obtain ⟨z, hz, rfl⟩ := Option.map_eq_some_iff.1 hy
    have hlt := (List.getElem?_eq_some_iff.1 hz).1
    unfold roomyI at hx
    rw [List.getElem?_append_left hlt, hz] at hx
    obtain rfl := Option.some.inj hx
    exact .refl _
theorem IsInt.tin {lo hi : Nat} {xs : List Int} {r : AV} (h : IsInt lo hi xs r) : Tin lo hi (tags r) := by
  rcases h with ⟨rfl, rfl⟩ | ⟨g, h1, h2, rfl⟩
  · exact .nil
  · simp only [tags, tagsL_iz]
    exact Tin.nil.cons (by simp) h1 h2
theorem IsInt.mono {lo hi lo' hi' : Nat} {xs : List Int} {r : AV} (h : IsInt lo hi xs r) (h1 : lo' ≤ lo) (h2 : hi ≤ hi') : IsInt lo' hi' xs r :=
  h.imp id fun ⟨g, a, b, c⟩ => ⟨g, by omega, by omega, c⟩
theorem IsInt.fld {lo hi : Nat} {xs : List Int} {r : AV} (h : IsInt lo hi xs r) : r.isAgg = false ∧ r.sz = 1 := by
  rcases h with ⟨rfl, rfl⟩ | ⟨g, h1, h2, rfl⟩ <;> exact ⟨rfl, rfl⟩
theorem pf_intsF (xs : List Int) : Pf true (intsF xs) := .lsl _ _ (by simp) (by simp [roomyI])
theorem s_intactIntS0 (n : Nat) (ys zs : List Int) (hn : n ≤ 1000000) (hy : ys.length = n + rm n) (hz : zs.length = n + rm n) :
    OK Go.Proofs.Tryd.prog 99 [.lsl none n (ys.map iz), .lsl none n (zs.map iz)] (fun _ _ r => r = .bool (decide (ys = zs))) := by
  refine fn_ok k99 rfl ?_
  have hrm := rm_le n
  have h54 := s54 n hn
  have h49 := s_eqIntS ys zs (by omega)
  generalize OK Go.Proofs.Tryd.prog = L at h54 h49 ⊢
  intro lo
  simp -dsimp only [↓SD, SP, ↓reduceIte, Nat.reduceEqDiff, ini, frz, rdAo, rd3o, rd2o, rdpo, rd1o, fnv, intv, VOp.dst, getRo, solEo, solo, solo1, allsz, List.all_cons, List.all_nil, Bool.and_true, beq_self_eq_true, List.length_cons, List.length_nil, Nat.zero_add, srcv, Nat.le_refl, List.take_succ_cons, List.take_zero, and_self, if_true, Nat.reduceAdd, Nat.reduceLT, eq_self, c99]
  refine call_rule h54 ?_
  rintro lo' hi r g1 g2 rfl
  have e1 : slcv (fun _ => none) 1 (.lsl none n (ys.map iz)) none (some (.int .i64 ((n : Int) + rm n))) = some (ints ys) := by
    simp [slcv, ints, hy, show ((n : Int) + rm n).toNat = n + rm n by omega]
    omega
  have e2 : slcv (fun _ => none) 1 (.lsl none n (zs.map iz)) none (some (.int .i64 ((n : Int) + rm n))) = some (ints zs) := by
    simp [slcv, ints, hz, show ((n : Int) + rm n).toNat = n + rm n by omega]
    omega
  simp -dsimp only [↓SD, SP, ↓reduceIte, Nat.reduceEqDiff, ini, frz, rdAo, rd3o, rd2o, rdpo, rd1o, fnv, intv, VOp.dst, getRo, solEo, solo, solo1, allsz, List.all_cons, List.all_nil, Bool.and_true, beq_self_eq_true, List.length_cons, List.length_nil, Nat.zero_add, srcv, Nat.le_refl, List.take_succ_cons, List.take_zero, and_self, if_true, Nat.reduceAdd, Nat.reduceLT, eq_self, wrap64 ((n : Int) + rm n) (by omega), e1, e2, ↓rd_ints false]
  refine call_rule h49 ?_
  rintro lo' hi r g1 g2 rfl
  simp -dsimp only [↓SD, SP, ↓reduceIte, Nat.reduceEqDiff, ini, frz, rdAo, rd3o, rd2o, rdpo, rd1o, fnv, intv, VOp.dst, getRo, solEo, solo, solo1, allsz, List.all_cons, List.all_nil, Bool.and_true, beq_self_eq_true, List.length_cons, List.length_nil, Nat.zero_add, srcv, Nat.le_refl, List.take_succ_cons, List.take_zero, and_self, if_true, Nat.reduceAdd, Nat.reduceLT, eq_self]
theorem roomyI_len (xs : List Int) : (roomyI xs).length = xs.length + rm xs.length := by simp [roomyI]
theorem s_intactIntS (xs : List Int) (h : xs.length ≤ 1000000) : OK Go.Proofs.Tryd.prog 99 [intsF xs, intsF xs] (fun _ _ r => r = .bool true) :=
  (s_intactIntS0 xs.length (roomyI xs) (roomyI xs) h (roomyI_len xs) (roomyI_len xs)).weak fun _ _ r hr => by simpa using hr
def gTo2 (s bytes fT fF fR : Nat) (z : AV) : VFn := ⟨2, 51, [.tmp 4], (.seq (.reg [⟨none, .mv 4 (.c .emp)⟩] [0]) (.seq (.seq (.reg [⟨none, .mv 8 (.t 1)⟩,
  ⟨none, .mv 9 (.t 8)⟩,
  ⟨some (9, true), .mv 10 (.t 0)⟩,
  ⟨some (9, true), .len 11 false (.t 10)⟩,
  ⟨some (9, true), .bin 12 .eql (.t 11) (.c (.int .i64 0))⟩,
  ⟨none, .pick 13 (.t 9) (.t 12) (.c (.bool false))⟩] [0, 1, 2, 3, 4, 5]) (.cond (.t 13) (.seq (.reg [⟨none, .mv 4 (.c .emp)⟩] [0]) .ret) .skip)) (.seq (.reg [⟨none, .mv 14 (.t 0)⟩,
  ⟨none, .len 15 false (.t 14)⟩,
  ⟨none, .mv 16 (.t 0)⟩,
  ⟨none, .len 17 false (.t 16)⟩,
  ⟨none, .call 18 (.c (.fn fR [])) [.t 17] false false⟩,
  ⟨none, .bin 19 .add (.t 15) (.t 18)⟩,
  ⟨none, .mks 20 s (.t 19) z bytes⟩,
  ⟨none, .mv 5 (.t 20)⟩] [0, 1, 2, 3, 4, 5, 6, 7]) (.seq (.seq (.reg [⟨none, .mv 6 (.c (.int .i64 0))⟩] [0]) (.block 0 (.loop (.seq (.seq (.reg [⟨none, .mv 21 (.t 6)⟩,
  ⟨none, .mv 22 (.t 0)⟩,
  ⟨none, .len 23 false (.t 22)⟩,
  ⟨none, .bin 24 .lss (.t 21) (.t 23)⟩] [0, 1, 2, 3]) (.cond (.t 24) .skip (.exit 0))) (.seq (.block 1 (.reg [⟨none, .mv 27 (.t 5)⟩,
  ⟨none, .mv 28 (.t 6)⟩,
  ⟨none, .mv 29 (.t 0)⟩,
  ⟨none, .mv 30 (.t 6)⟩,
  ⟨none, .idxA 31 s (.t 29) (.t 30)⟩,
  ⟨none, .ld 32 (.t 31) (some s)⟩,
  ⟨none, .call 33 (.c (.fn fT [])) [.t 32] false false⟩,
  ⟨none, .idxA 34 s (.t 27) (.t 28)⟩,
  ⟨none, .st (.t 34) (.t 33) (some s)⟩] [0, 1, 2, 3, 4, 5, 6, 7, 8])) (.reg [⟨none, .mv 25 (.t 6)⟩,
  ⟨none, .bin 26 .add (.t 25) (.c (.int .i64 1))⟩,
  ⟨none, .mv 6 (.t 26)⟩] [0, 1, 2])))))) (.seq (.seq (.reg [⟨none, .mv 35 (.t 0)⟩,
  ⟨none, .len 36 false (.t 35)⟩,
  ⟨none, .mv 7 (.t 36)⟩] [0, 1, 2]) (.block 2 (.loop (.seq (.seq (.reg [⟨none, .mv 37 (.t 7)⟩,
  ⟨none, .mv 38 (.t 5)⟩,
  ⟨none, .len 39 false (.t 38)⟩,
  ⟨none, .bin 40 .lss (.t 37) (.t 39)⟩] [0, 1, 2, 3]) (.cond (.t 40) .skip (.exit 2))) (.seq (.block 3 (.reg [⟨none, .mv 43 (.t 5)⟩,
  ⟨none, .mv 44 (.t 7)⟩,
  ⟨none, .call 45 (.c (.fn fF [])) [] false false⟩,
  ⟨none, .idxA 46 s (.t 43) (.t 44)⟩,
  ⟨none, .st (.t 46) (.t 45) (some s)⟩] [0, 1, 2, 3, 4])) (.reg [⟨none, .mv 41 (.t 7)⟩,
  ⟨none, .bin 42 .add (.t 41) (.c (.int .i64 1))⟩,
  ⟨none, .mv 7 (.t 42)⟩] [0, 1, 2])))))) (.seq (.reg [⟨none, .mv 47 (.t 5)⟩,
  ⟨none, .mv 48 (.t 0)⟩,
  ⟨none, .len 49 false (.t 48)⟩,
  ⟨none, .slc 50 s (.t 47) none (some (.t 49))⟩,
  ⟨none, .mv 4 (.t 50)⟩] [0, 1, 2, 3, 4]) .ret))))))⟩
theorem g_to2 {P : Program} {f s bytes fT fF fR : Nat} {z : AV} (hk : chkFn P f (gTo2 s bytes fT fF fR z) = true) (hb : bytes ≤ 100000) (hs : 0 < s) {α : Type} {e : α → AV} (he : El s e) (Is : Nat → Nat → α → AV → Prop) (Fl : AV → Prop) (hIs : ∀ lo hi x r, Is lo hi x r → (∃ fs, r = .agg fs ∧ fs.length = s) ∧ Tin lo hi (tags r) ∧ ∀ H, solo H r = some (r, H))
    (hfl : ∀ r, Fl r → (∃ fs, r = .agg fs ∧ fs.length = s) ∧ ∀ H, solo H r = some (r, H)) (xs : List α) (bare : Bool) (hx : xs.length ≤ 1000000) (hR : ∀ k : Nat, k ≤ 1000000 → OK P fR [.int .i64 k] (fun _ _ r => r = .int .i64 (rm k)))
    (hT : ∀ x ∈ xs, OK P fT [e x] (fun lo hi r => Is lo hi x r)) (hF : OK P fF [] (fun lo hi r => Fl r ∧ Tin lo hi (tags r))) :
    OK P f [lv e xs, .bool bare] (fun lo hi r => IsL s Is Fl lo hi xs bare r) := by
  refine fn_ok hk rfl ?_
  have hR := hR xs.length hx
  generalize OK P = L at *
  intro lo
  have hrm := rm_le xs.length
  have hby : ((xs.length : Int) + rm xs.length) * bytes ≤ 140737488355328 := by
    have : (xs.length + rm xs.length) * bytes ≤ 2000001 * 100000 := Nat.mul_le_mul (by omega) hb
    have h2 : (((xs.length + rm xs.length) * bytes : Nat) : Int) ≤ ((2000001 * 100000 : Nat) : Int) := Int.ofNat_le.2 this
    rw [Int.natCast_mul, Int.natCast_add] at h2
    omega
  by_cases hemp : bare = true ∧ xs = []
  · obtain ⟨rfl, rfl⟩ := hemp
    simp -dsimp only [↓SD, SP, ↓reduceIte, Nat.reduceEqDiff, ini, frz, rdAo, rd3o, rd2o, rdpo, rd1o, fnv, intv, VOp.dst, getRo, solEo, solo, solo1, allsz, List.all_cons, List.all_nil, Bool.and_true, beq_self_eq_true, List.length_cons, List.length_nil, Nat.zero_add, srcv, Nat.le_refl, List.take_succ_cons, List.take_zero, and_self, if_true, Nat.reduceAdd, Nat.reduceLT, eq_self, gTo2, l_lv, Int.natCast_zero]
    exact .inl ⟨rfl, rfl, rfl⟩
  have hc : bare = true → ¬ (xs.length : Int) = 0 := fun e h => hemp ⟨e, List.eq_nil_of_length_eq_zero (by omega)⟩
  obtain ⟨bb, hbb⟩ : ∃ bb : Bool, bb = bare := ⟨_, rfl⟩
  cases bare
  case' true => simp -dsimp only [↓SD, SP, ↓reduceIte, Nat.reduceEqDiff, ini, frz, rdAo, rd3o, rd2o, rdpo, rd1o, fnv, intv, VOp.dst, getRo, solEo, solo, solo1, allsz, List.all_cons, List.all_nil, Bool.and_true, beq_self_eq_true, List.length_cons, List.length_nil, Nat.zero_add, srcv, Nat.le_refl, List.take_succ_cons, List.take_zero, and_self, if_true, Nat.reduceAdd, Nat.reduceLT, eq_self, gTo2, l_lv, ↓r_any, hc rfl]
  case' false => simp -dsimp only [↓SD, SP, ↓reduceIte, Nat.reduceEqDiff, ini, frz, rdAo, rd3o, rd2o, rdpo, rd1o, fnv, intv, VOp.dst, getRo, solEo, solo, solo1, allsz, List.all_cons, List.all_nil, Bool.and_true, beq_self_eq_true, List.length_cons, List.length_nil, Nat.zero_add, srcv, Nat.le_refl, List.take_succ_cons, List.take_zero, and_self, if_true, Nat.reduceAdd, Nat.reduceLT, eq_self, gTo2, l_lv, ↓r_any]
  all_goals
    refine call_rule hR ?_
    rintro lo1 hi1 r g1 g2 rfl
    simp -dsimp only [↓SD, SP, ↓reduceIte, Nat.reduceEqDiff, ini, frz, rdAo, rd3o, rd2o, rdpo, rd1o, fnv, intv, VOp.dst, getRo, solEo, solo, solo1, allsz, List.all_cons, List.all_nil, Bool.and_true, beq_self_eq_true, List.length_cons, List.length_nil, Nat.zero_add, srcv, Nat.le_refl, List.take_succ_cons, List.take_zero, and_self, if_true, Nat.reduceAdd, Nat.reduceLT, eq_self, wrap64 ((xs.length : Int) + rm xs.length) (by omega), ↓r_any]
    refine mk_at (by omega) fun g hg => ?_
    simp -dsimp only [↓SD, SP, ↓reduceIte, Nat.reduceEqDiff, ini, frz, rdAo, rd3o, rd2o, rdpo, rd1o, fnv, intv, VOp.dst, getRo, solEo, solo, solo1, allsz, List.all_cons, List.all_nil, Bool.and_true, beq_self_eq_true, List.length_cons, List.length_nil, Nat.zero_add, srcv, Nat.le_refl, List.take_succ_cons, List.take_zero, and_self, if_true, Nat.reduceAdd, Nat.reduceLT, eq_self, show ((xs.length : Int) + rm xs.length).toNat = xs.length + rm xs.length by omega]
    refine loop_rule (fun m E H n => ∃ rows : List AV, m + rows.length = xs.length ∧ E 0 = lv e xs ∧ E 1 = .bool bb ∧ E 5 = .own 20 g s (xs.length + rm xs.length) ∧ E 6 = .int .i64 rows.length ∧
          H 20 = some ⟨g, s, rows ++ List.replicate (m + rm xs.length) z, false, true, true⟩ ∧ Tin lo n (g :: tagsL rows) ∧ (∀ (i : Nat) (x : α) (y : AV), xs[i]? = some x → rows[i]? = some y → ∃ a b, Is a b x y) ∧ lo ≤ n)
      (fun e' E H n => e' = .exit 0 ∧ ∃ rows : List AV, rows.length = xs.length ∧ E 0 = lv e xs ∧ E 5 = .own 20 g s (xs.length + rm xs.length) ∧
          H 20 = some ⟨g, s, rows ++ List.replicate (rm xs.length) z, false, true, true⟩ ∧ Tin lo n (g :: tagsL rows) ∧ (∀ (i : Nat) (x : α) (y : AV), xs[i]? = some x → rows[i]? = some y → ∃ a b, Is a b x y) ∧ lo ≤ n)
      xs.length ⟨[], rfl, rfl, ?_, ?_, rfl, ?_, ?_, by simp, by omega⟩ ?_ ?_
    · simp -dsimp only [↓SD, SP, ↓reduceIte, Nat.reduceEqDiff, ini, frz, rdAo, rd3o, rd2o, rdpo, rd1o, fnv, intv, VOp.dst, getRo, solEo, solo, solo1, allsz, List.all_cons, List.all_nil, Bool.and_true, beq_self_eq_true, List.length_cons, List.length_nil, Nat.zero_add, srcv, Nat.le_refl, List.take_succ_cons, List.take_zero, and_self, if_true, Nat.reduceAdd, Nat.reduceLT, eq_self, hbb]
    · simp -dsimp only [↓SD, SP, ↓reduceIte, Nat.reduceEqDiff, ini, frz, rdAo, rd3o, rd2o, rdpo, rd1o, fnv, intv, VOp.dst, getRo, solEo, solo, solo1, allsz, List.all_cons, List.all_nil, Bool.and_true, beq_self_eq_true, List.length_cons, List.length_nil, Nat.zero_add, srcv, Nat.le_refl, List.take_succ_cons, List.take_zero, and_self, if_true, Nat.reduceAdd, Nat.reduceLT, eq_self, show ((xs.length : Int) + rm xs.length).toNat = xs.length + rm xs.length by omega]
    · simp -dsimp only [↓SD, SP, ↓reduceIte, Nat.reduceEqDiff, ini, frz, rdAo, rd3o, rd2o, rdpo, rd1o, fnv, intv, VOp.dst, getRo, solEo, solo, solo1, allsz, List.all_cons, List.all_nil, Bool.and_true, beq_self_eq_true, List.length_cons, List.length_nil, Nat.zero_add, srcv, Nat.le_refl, List.take_succ_cons, List.take_zero, and_self, if_true, Nat.reduceAdd, Nat.reduceLT, eq_self, show ((xs.length : Int) + rm xs.length).toNat = xs.length + rm xs.length by omega]
    · exact Tin.nil.cons (by simp) (by omega) (by omega)
    · rintro e' E H n ⟨rfl, rows, hrl, h0, h5, hH, hT1, hI, hlo⟩
      simp -dsimp only [↓SD, SP, ↓reduceIte, Nat.reduceEqDiff, ini, frz, rdAo, rd3o, rd2o, rdpo, rd1o, fnv, intv, VOp.dst, getRo, solEo, solo, solo1, allsz, List.all_cons, List.all_nil, Bool.and_true, beq_self_eq_true, List.length_cons, List.length_nil, Nat.zero_add, srcv, Nat.le_refl, List.take_succ_cons, List.take_zero, and_self, if_true, Nat.reduceAdd, Nat.reduceLT, eq_self, h0, l_lv]
      refine loop_rule (fun m E H n => ∃ fs : List AV, m + fs.length = rm xs.length ∧ E 0 = lv e xs ∧ E 5 = .own 20 g s (xs.length + rm xs.length) ∧ E 7 = .int .i64 (xs.length + fs.length : Nat) ∧
            H 20 = some ⟨g, s, (rows ++ fs) ++ List.replicate m z, false, true, true⟩ ∧ Tin lo n (g :: tagsL (rows ++ fs)) ∧ (∀ y ∈ fs, Fl y) ∧ lo ≤ n)
        (fun e' E H n => e' = .exit 2 ∧ ∃ fs : List AV, fs.length = rm xs.length ∧ E 0 = lv e xs ∧ E 5 = .own 20 g s (xs.length + rm xs.length) ∧
            H 20 = some ⟨g, s, rows ++ fs, false, true, true⟩ ∧ Tin lo n (g :: tagsL (rows ++ fs)) ∧ ∀ y ∈ fs, Fl y)
        (rm xs.length) ⟨[], rfl, ?_, ?_, ?_, ?_, ?_, by simp, hlo⟩ ?_ ?_
      · simp -dsimp only [↓SD, SP, ↓reduceIte, Nat.reduceEqDiff, ini, frz, rdAo, rd3o, rd2o, rdpo, rd1o, fnv, intv, VOp.dst, getRo, solEo, solo, solo1, allsz, List.all_cons, List.all_nil, Bool.and_true, beq_self_eq_true, List.length_cons, List.length_nil, Nat.zero_add, srcv, Nat.le_refl, List.take_succ_cons, List.take_zero, and_self, if_true, Nat.reduceAdd, Nat.reduceLT, eq_self, h0]
      · simp -dsimp only [↓SD, SP, ↓reduceIte, Nat.reduceEqDiff, ini, frz, rdAo, rd3o, rd2o, rdpo, rd1o, fnv, intv, VOp.dst, getRo, solEo, solo, solo1, allsz, List.all_cons, List.all_nil, Bool.and_true, beq_self_eq_true, List.length_cons, List.length_nil, Nat.zero_add, srcv, Nat.le_refl, List.take_succ_cons, List.take_zero, and_self, if_true, Nat.reduceAdd, Nat.reduceLT, eq_self, h5]
      · simp -dsimp only [↓SD, SP, ↓reduceIte, Nat.reduceEqDiff, ini, frz, rdAo, rd3o, rd2o, rdpo, rd1o, fnv, intv, VOp.dst, getRo, solEo, solo, solo1, allsz, List.all_cons, List.all_nil, Bool.and_true, beq_self_eq_true, List.length_cons, List.length_nil, Nat.zero_add, srcv, Nat.le_refl, List.take_succ_cons, List.take_zero, and_self, if_true, Nat.reduceAdd, Nat.reduceLT, eq_self, Nat.add_zero]
      · simp -dsimp only [↓SD, SP, ↓reduceIte, Nat.reduceEqDiff, ini, frz, rdAo, rd3o, rd2o, rdpo, rd1o, fnv, intv, VOp.dst, getRo, solEo, solo, solo1, allsz, List.all_cons, List.all_nil, Bool.and_true, beq_self_eq_true, List.length_cons, List.length_nil, Nat.zero_add, srcv, Nat.le_refl, List.take_succ_cons, List.take_zero, and_self, if_true, Nat.reduceAdd, Nat.reduceLT, eq_self, hH]
      · simp -dsimp only [↓SD, SP, ↓reduceIte, Nat.reduceEqDiff, ini, frz, rdAo, rd3o, rd2o, rdpo, rd1o, fnv, intv, VOp.dst, getRo, solEo, solo, solo1, allsz, List.all_cons, List.all_nil, Bool.and_true, beq_self_eq_true, List.length_cons, List.length_nil, Nat.zero_add, srcv, Nat.le_refl, List.take_succ_cons, List.take_zero, and_self, if_true, Nat.reduceAdd, Nat.reduceLT, eq_self]
        exact hT1
      · rintro e' E H n ⟨rfl, fs, hfl', h0, h5, hH, hT2, hW⟩
        have hsl : slcv H s (.own 20 g s (xs.length + rm xs.length)) none (some (.int .i64 xs.length)) = some (.own 20 g s xs.length) := by
          simp [slcv, hH, hrl, hfl', hs]
        simp -dsimp only [↓SD, SP, ↓reduceIte, Nat.reduceEqDiff, ini, frz, rdAo, rd3o, rd2o, rdpo, rd1o, fnv, intv, VOp.dst, getRo, solEo, solo, solo1, allsz, List.all_cons, List.all_nil, Bool.and_true, beq_self_eq_true, List.length_cons, List.length_nil, Nat.zero_add, srcv, Nat.le_refl, List.take_succ_cons, List.take_zero, and_self, if_true, Nat.reduceAdd, Nat.reduceLT, eq_self, h0, h5, l_lv, hsl, hH, List.length_append, hrl, Nat.le_add_right]
        refine .inr ⟨g, rows ++ fs, by omega, ?_, rfl, by simp [hrl, hfl'], hT2, fun i x y hx hy => ?_, fun i y hi hy => ?_⟩
        · exact (hT2.2 g List.mem_cons_self).2
        · have hlt := (List.getElem?_eq_some_iff.1 hx).1
          rw [List.getElem?_append_left (by omega)] at hy
          exact hI i x y hx hy
        · rw [List.getElem?_append_right (by omega)] at hy
          exact hW y (List.mem_of_getElem? hy)
      · rintro m E H n Q K ⟨fs, hm, h0, h5, h7, hH, hT2, hW, hlo⟩ hQ hK
        cases m with
        | zero =>
          simp -dsimp only [↓SD, SP, ↓reduceIte, Nat.reduceEqDiff, ini, frz, rdAo, rd3o, rd2o, rdpo, rd1o, fnv, intv, VOp.dst, getRo, solEo, solo, solo1, allsz, List.all_cons, List.all_nil, Bool.and_true, beq_self_eq_true, List.length_cons, List.length_nil, Nat.zero_add, srcv, Nat.le_refl, List.take_succ_cons, List.take_zero, and_self, if_true, Nat.reduceAdd, Nat.reduceLT, eq_self, h0, h5, h7, Int.ofNat_lt, show ¬ xs.length + fs.length < xs.length + rm xs.length by omega]
          refine hQ _ _ _ _ ⟨rfl, fs, by omega, h0, h5, ?_, hT2, hW⟩
          rw [hH]
          simp
        | succ m =>
          simp -dsimp only [↓SD, SP, ↓reduceIte, Nat.reduceEqDiff, ini, frz, rdAo, rd3o, rd2o, rdpo, rd1o, fnv, intv, VOp.dst, getRo, solEo, solo, solo1, allsz, List.all_cons, List.all_nil, Bool.and_true, beq_self_eq_true, List.length_cons, List.length_nil, Nat.zero_add, srcv, Nat.le_refl, List.take_succ_cons, List.take_zero, and_self, if_true, Nat.reduceAdd, Nat.reduceLT, eq_self, h0, h5, h7, Int.ofNat_lt, show xs.length + fs.length < xs.length + rm xs.length by omega, ↓r_any]
          refine call_rule hF ?_
          rintro lo2 hi2 r g3 g4 ⟨hw, ht⟩
          obtain ⟨⟨ffs, rfl, hfl2⟩, hfs⟩ := hfl _ hw
          have hst := st_agg (i := xs.length + fs.length) hH (by simp; omega) hfl2 (hfs H)
          rw [show xs.length + fs.length = (rows ++ fs).length by simp [hrl], set_next] at hst
          simp only [List.length_append, hrl] at hst
          simp -dsimp only [↓SD, SP, ↓reduceIte, Nat.reduceEqDiff, ini, frz, rdAo, rd3o, rd2o, rdpo, rd1o, fnv, intv, VOp.dst, getRo, solEo, solo, solo1, allsz, List.all_cons, List.all_nil, Bool.and_true, beq_self_eq_true, List.length_cons, List.length_nil, Nat.zero_add, srcv, Nat.le_refl, List.take_succ_cons, List.take_zero, and_self, if_true, Nat.reduceAdd, Nat.reduceLT, eq_self, ↓r_any, h5, h7, x_own 20 g s (xs.length + rm xs.length) (xs.length + fs.length) (by omega), hst, wrap64 (((xs.length + fs.length : Nat) : Int) + 1) (by omega)]
          refine hK m _ _ _ rfl ⟨fs ++ [.agg ffs], by simp; omega, ?_, ?_, ?_, ?_, ?_, fun y hy => ?_, by omega⟩
          · simp -dsimp only [↓SD, SP, ↓reduceIte, Nat.reduceEqDiff, ini, frz, rdAo, rd3o, rd2o, rdpo, rd1o, fnv, intv, VOp.dst, getRo, solEo, solo, solo1, allsz, List.all_cons, List.all_nil, Bool.and_true, beq_self_eq_true, List.length_cons, List.length_nil, Nat.zero_add, srcv, Nat.le_refl, List.take_succ_cons, List.take_zero, and_self, if_true, Nat.reduceAdd, Nat.reduceLT, eq_self, h0]
          · simp -dsimp only [↓SD, SP, ↓reduceIte, Nat.reduceEqDiff, ini, frz, rdAo, rd3o, rd2o, rdpo, rd1o, fnv, intv, VOp.dst, getRo, solEo, solo, solo1, allsz, List.all_cons, List.all_nil, Bool.and_true, beq_self_eq_true, List.length_cons, List.length_nil, Nat.zero_add, srcv, Nat.le_refl, List.take_succ_cons, List.take_zero, and_self, if_true, Nat.reduceAdd, Nat.reduceLT, eq_self, h5]
          · simp -dsimp only [↓SD, SP, ↓reduceIte, Nat.reduceEqDiff, ini, frz, rdAo, rd3o, rd2o, rdpo, rd1o, fnv, intv, VOp.dst, getRo, solEo, solo, solo1, allsz, List.all_cons, List.all_nil, Bool.and_true, beq_self_eq_true, List.length_cons, List.length_nil, Nat.zero_add, srcv, Nat.le_refl, List.take_succ_cons, List.take_zero, and_self, if_true, Nat.reduceAdd, Nat.reduceLT, eq_self, List.length_append, show ((xs.length + fs.length : Nat) : Int) + 1 = ((xs.length + (fs.length + 1) : Nat) : Int) by omega]
          · simp -dsimp only [↓SD, SP, ↓reduceIte, Nat.reduceEqDiff, ini, frz, rdAo, rd3o, rd2o, rdpo, rd1o, fnv, intv, VOp.dst, getRo, solEo, solo, solo1, allsz, List.all_cons, List.all_nil, Bool.and_true, beq_self_eq_true, List.length_cons, List.length_nil, Nat.zero_add, srcv, Nat.le_refl, List.take_succ_cons, List.take_zero, and_self, if_true, Nat.reduceAdd, Nat.reduceLT, eq_self, List.append_assoc]
          · rw [← List.append_assoc]
            exact tin_snoc hT2 ht (by omega) (by omega) (by omega) (by omega)
          · rcases List.mem_append.1 hy with hy | hy
            · exact hW y hy
            · obtain rfl := List.mem_singleton.1 hy
              exact hw
    · rintro m E H n Q K ⟨rows, hm, h0, h1, h5, h6, hH, hT1, hI, hlo⟩ hQ hK
      cases m with
      | zero =>
        simp -dsimp only [↓SD, SP, ↓reduceIte, Nat.reduceEqDiff, ini, frz, rdAo, rd3o, rd2o, rdpo, rd1o, fnv, intv, VOp.dst, getRo, solEo, solo, solo1, allsz, List.all_cons, List.all_nil, Bool.and_true, beq_self_eq_true, List.length_cons, List.length_nil, Nat.zero_add, srcv, Nat.le_refl, List.take_succ_cons, List.take_zero, and_self, if_true, Nat.reduceAdd, Nat.reduceLT, eq_self, h0, h5, h6, l_lv, Int.ofNat_lt, show ¬ rows.length < xs.length by omega]
        refine hQ _ _ _ _ ⟨rfl, rows, by omega, h0, h5, ?_, hT1, hI, hlo⟩
        rw [hH]
        simp
      | succ m =>
        have hi : rows.length < xs.length := by omega
        simp -dsimp only [↓SD, SP, ↓reduceIte, Nat.reduceEqDiff, ini, frz, rdAo, rd3o, rd2o, rdpo, rd1o, fnv, intv, VOp.dst, getRo, solEo, solo, solo1, allsz, List.all_cons, List.all_nil, Bool.and_true, beq_self_eq_true, List.length_cons, List.length_nil, Nat.zero_add, srcv, Nat.le_refl, List.take_succ_cons, List.take_zero, and_self, if_true, Nat.reduceAdd, Nat.reduceLT, eq_self, h0, h1, h5, h6, l_lv, Int.ofNat_lt, hi, x_lv he _ _ hi, ↓d_lv he, ↓he.rd, ↓r_any]
        refine call_rule (hT xs[rows.length] (List.getElem_mem hi)) ?_
        rintro lo2 hi2 r g3 g4 hr
        obtain ⟨⟨ffs, rfl, hfl'⟩, ht, hso⟩ := hIs _ _ _ _ hr
        have hst := st_agg (i := rows.length) hH (by simp; omega) hfl' (hso H)
        rw [show m + 1 + rm xs.length = (m + rm xs.length) + 1 by omega, set_next] at hst
        simp -dsimp only [↓SD, SP, ↓reduceIte, Nat.reduceEqDiff, ini, frz, rdAo, rd3o, rd2o, rdpo, rd1o, fnv, intv, VOp.dst, getRo, solEo, solo, solo1, allsz, List.all_cons, List.all_nil, Bool.and_true, beq_self_eq_true, List.length_cons, List.length_nil, Nat.zero_add, srcv, Nat.le_refl, List.take_succ_cons, List.take_zero, and_self, if_true, Nat.reduceAdd, Nat.reduceLT, eq_self, ↓r_any, h5, h6, x_own 20 g s (xs.length + rm xs.length) rows.length (by omega), hst, wrap64 ((rows.length : Int) + 1) (by omega)]
        refine hK m _ _ _ rfl ⟨rows ++ [.agg ffs], by simp; omega, ?_, ?_, ?_, ?_, ?_, ?_, ?_, ?_⟩
        · simp -dsimp only [↓SD, SP, ↓reduceIte, Nat.reduceEqDiff, ini, frz, rdAo, rd3o, rd2o, rdpo, rd1o, fnv, intv, VOp.dst, getRo, solEo, solo, solo1, allsz, List.all_cons, List.all_nil, Bool.and_true, beq_self_eq_true, List.length_cons, List.length_nil, Nat.zero_add, srcv, Nat.le_refl, List.take_succ_cons, List.take_zero, and_self, if_true, Nat.reduceAdd, Nat.reduceLT, eq_self, h0]
        · simp -dsimp only [↓SD, SP, ↓reduceIte, Nat.reduceEqDiff, ini, frz, rdAo, rd3o, rd2o, rdpo, rd1o, fnv, intv, VOp.dst, getRo, solEo, solo, solo1, allsz, List.all_cons, List.all_nil, Bool.and_true, beq_self_eq_true, List.length_cons, List.length_nil, Nat.zero_add, srcv, Nat.le_refl, List.take_succ_cons, List.take_zero, and_self, if_true, Nat.reduceAdd, Nat.reduceLT, eq_self, h1]
        · simp -dsimp only [↓SD, SP, ↓reduceIte, Nat.reduceEqDiff, ini, frz, rdAo, rd3o, rd2o, rdpo, rd1o, fnv, intv, VOp.dst, getRo, solEo, solo, solo1, allsz, List.all_cons, List.all_nil, Bool.and_true, beq_self_eq_true, List.length_cons, List.length_nil, Nat.zero_add, srcv, Nat.le_refl, List.take_succ_cons, List.take_zero, and_self, if_true, Nat.reduceAdd, Nat.reduceLT, eq_self, h5]
        · simp -dsimp only [↓SD, SP, ↓reduceIte, Nat.reduceEqDiff, ini, frz, rdAo, rd3o, rd2o, rdpo, rd1o, fnv, intv, VOp.dst, getRo, solEo, solo, solo1, allsz, List.all_cons, List.all_nil, Bool.and_true, beq_self_eq_true, List.length_cons, List.length_nil, Nat.zero_add, srcv, Nat.le_refl, List.take_succ_cons, List.take_zero, and_self, if_true, Nat.reduceAdd, Nat.reduceLT, eq_self, List.length_append, Int.natCast_add, Int.natCast_one]
        · simp -dsimp only [↓SD, SP, ↓reduceIte, Nat.reduceEqDiff, ini, frz, rdAo, rd3o, rd2o, rdpo, rd1o, fnv, intv, VOp.dst, getRo, solEo, solo, solo1, allsz, List.all_cons, List.all_nil, Bool.and_true, beq_self_eq_true, List.length_cons, List.length_nil, Nat.zero_add, srcv, Nat.le_refl, List.take_succ_cons, List.take_zero, and_self, if_true, Nat.reduceAdd, Nat.reduceLT, eq_self]
        · exact tin_snoc hT1 ht (by omega) (by omega) (by omega) (by omega)
        · intro i x y hx hy
          rcases Nat.lt_or_ge i rows.length with hlt | hge
          · rw [List.getElem?_append_left hlt] at hy
            exact hI i x y hx hy
          · have hlt := (List.getElem?_eq_some_iff.1 hy).1
            simp at hlt
            obtain rfl : i = rows.length := by omega
            rw [List.getElem?_append_right (Nat.le_refl _)] at hy
            simp at hy
            subst hy
            rw [List.getElem?_eq_getElem hi] at hx
            obtain rfl := Option.some.inj hx
            exact ⟨_, _, hr⟩
        · omega
end Go.AVM

/- Heads, commits, repositories: what the law's helpers give. -/
set_option linter.unusedSimpArgs false
set_option linter.unusedVariables false
namespace Go.AVM
/-! ### heads -/
def headV (h : HeadL) : AV := .agg [.str h.name, .int .i64 h.at_]
abbrev headsV (hs : List HeadL) : AV := lv headV hs
def fillHd : HeadL := ⟨spare, fillN⟩
def wfHd (h : HeadL) : Prop := h.name.size ≤ 9223372036854775807
def okHd (h : HeadL) : Prop := h.name.size ≤ 1000000
theorem rd_head (fl : Bool) (H : Hp) (h : HeadL) : rd3o fl H (headV h) = some (headV h, []) := by
  cases fl <;> simp [headV, rd3o, rd2o, rdpo, rdso, rd1o]
theorem el_head : El 2 headV := ⟨fun x => ⟨_, rfl, rfl⟩, rd_head false⟩
theorem sz_head (h : HeadL) : (headV h).sz = 2 := Eq.trans rfl rfl
theorem fz_head (h : HeadL) : fitsz (some 2) (headV h) = true := by simp [fitsz, headV]
theorem fa_d0 (h : HeadL) : fldAv 0 (.lptr (headV h)) = some (.lptr (.str h.name)) := by simp [fldAv, headV, AV.isAgg, AV.sz]
theorem fa_d1 (h : HeadL) : fldAv 1 (.lptr (headV h)) = some (.lptr (.int .i64 h.at_)) := by simp [fldAv, headV, AV.isAgg, AV.sz]
theorem fv_d0 (h : HeadL) : fldv 0 (headV h) = some (.str h.name) := by simp [fldv, headV, AV.isAgg]
theorem fv_d1 (h : HeadL) : fldv 1 (headV h) = some (.int .i64 h.at_) := by simp [fldv, headV, AV.isAgg]
theorem pl_head {fl : Bool} (h : HeadL) : Pl fl (headV h) := .agg _ fun g hg => by
  simp at hg
  rcases hg with rfl | rfl
  · exact .str _
  · exact .int _ _
theorem s_szHead (h : HeadL) (k : Nat) (hk : k ≤ 1000000) (hw : wfHd h) : OK Go.Proofs.Tryd.prog 59 [headV h, .int .i64 k] (fun _ _ r => ∃ i : Int, r = .int .i64 i ∧ (0 ≤ i → okHd h ∧ ∃ k' : Nat, i = k' ∧ k' ≤ k)) := by
  refine fn_ok k59 rfl ?_
  unfold wfHd at hw
  unfold okHd
  generalize OK Go.Proofs.Tryd.prog = L at *
  intro lo
  simp -dsimp only [↓SD, SP, ↓reduceIte, Nat.reduceEqDiff, ini, frz, rdAo, rd3o, rd2o, rdpo, rd1o, fnv, intv, VOp.dst, getRo, solEo, solo, solo1, allsz, List.all_cons, List.all_nil, Bool.and_true, beq_self_eq_true, List.length_cons, List.length_nil, Nat.zero_add, srcv, Nat.le_refl, List.take_succ_cons, List.take_zero, and_self, if_true, Nat.reduceAdd, Nat.reduceLT, eq_self, c59, sz_head]
  refine bal_mk fun b hb => ?_
  by_cases hneg0 : (k : Int) - h.name.size < 0
  · simp -dsimp only [↓SD, SP, ↓reduceIte, Nat.reduceEqDiff, ini, frz, rdAo, rd3o, rd2o, rdpo, rd1o, fnv, intv, VOp.dst, getRo, solEo, solo, solo1, allsz, List.all_cons, List.all_nil, Bool.and_true, beq_self_eq_true, List.length_cons, List.length_nil, Nat.zero_add, srcv, Nat.le_refl, List.take_succ_cons, List.take_zero, and_self, if_true, Nat.reduceAdd, Nat.reduceLT, eq_self, fa_o, ↓ldv_f, ↓ldv_n, ↓stv_f, ↓stv_a, fldv, setf, bldv, small, Bool.true_and, List.getElem?_cons_zero, List.getElem?_cons_succ, List.set_cons_zero, List.set_cons_succ, Bool.false_eq_true, if_false, true_and, and_true, reduceCtorEq, false_implies, implies_true, forall_const, ↓fv_d0, wrap64 ((k : Int) - h.name.size) (by omega), hneg0, ↓r_any]
    exact ⟨_, rfl, by omega⟩
  simp -dsimp only [↓SD, SP, ↓reduceIte, Nat.reduceEqDiff, ini, frz, rdAo, rd3o, rd2o, rdpo, rd1o, fnv, intv, VOp.dst, getRo, solEo, solo, solo1, allsz, List.all_cons, List.all_nil, Bool.and_true, beq_self_eq_true, List.length_cons, List.length_nil, Nat.zero_add, srcv, Nat.le_refl, List.take_succ_cons, List.take_zero, and_self, if_true, Nat.reduceAdd, Nat.reduceLT, eq_self, fa_o, ↓ldv_f, ↓ldv_n, ↓stv_f, ↓stv_a, fldv, setf, bldv, small, Bool.true_and, List.getElem?_cons_zero, List.getElem?_cons_succ, List.set_cons_zero, List.set_cons_succ, Bool.false_eq_true, if_false, true_and, and_true, reduceCtorEq, false_implies, implies_true, forall_const, ↓fv_d0, wrap64 ((k : Int) - h.name.size) (by omega), hneg0, ↓r_any]
  exact ⟨_, rfl, fun _ => ⟨by omega, k - h.name.size, by omega, by omega⟩⟩
theorem s_toHead (h : HeadL) : OK Go.Proofs.Tryd.prog 64 [headV h] (fun lo hi r => r = headV h) := by
  refine fn_ok k64 rfl ?_
  generalize OK Go.Proofs.Tryd.prog = L at *
  intro lo
  simp -dsimp only [↓SD, SP, ↓reduceIte, Nat.reduceEqDiff, ini, frz, rdAo, rd3o, rd2o, rdpo, rd1o, fnv, intv, VOp.dst, getRo, solEo, solo, solo1, allsz, List.all_cons, List.all_nil, Bool.and_true, beq_self_eq_true, List.length_cons, List.length_nil, Nat.zero_add, srcv, Nat.le_refl, List.take_succ_cons, List.take_zero, and_self, if_true, Nat.reduceAdd, Nat.reduceLT, eq_self, c64, headV]
  refine bal_mk fun b hb => ?_
  simp -dsimp only [↓SD, SP, ↓reduceIte, Nat.reduceEqDiff, ini, frz, rdAo, rd3o, rd2o, rdpo, rd1o, fnv, intv, VOp.dst, getRo, solEo, solo, solo1, allsz, List.all_cons, List.all_nil, Bool.and_true, beq_self_eq_true, List.length_cons, List.length_nil, Nat.zero_add, srcv, Nat.le_refl, List.take_succ_cons, List.take_zero, and_self, if_true, Nat.reduceAdd, Nat.reduceLT, eq_self]
  refine bal_mk fun b1 hb1 => ?_
  simp -dsimp only [↓SD, SP, ↓reduceIte, Nat.reduceEqDiff, ini, frz, rdAo, rd3o, rd2o, rdpo, rd1o, fnv, intv, VOp.dst, getRo, solEo, solo, solo1, allsz, List.all_cons, List.all_nil, Bool.and_true, beq_self_eq_true, List.length_cons, List.length_nil, Nat.zero_add, srcv, Nat.le_refl, List.take_succ_cons, List.take_zero, and_self, if_true, Nat.reduceAdd, Nat.reduceLT, eq_self]
  refine bal_mk fun b2 hb2 => ?_
  simp -dsimp only [↓SD, SP, ↓reduceIte, Nat.reduceEqDiff, ini, frz, rdAo, rd3o, rd2o, rdpo, rd1o, fnv, intv, VOp.dst, getRo, solEo, solo, solo1, allsz, List.all_cons, List.all_nil, Bool.and_true, beq_self_eq_true, List.length_cons, List.length_nil, Nat.zero_add, srcv, Nat.le_refl, List.take_succ_cons, List.take_zero, and_self, if_true, Nat.reduceAdd, Nat.reduceLT, eq_self, fldAv, ↓ldv_f, ↓ldv_n, ↓stv_f, ↓stv_a, fldv, setf, bldv, small, Bool.true_and, List.getElem?_cons_zero, List.getElem?_cons_succ, List.set_cons_zero, List.set_cons_succ, Bool.false_eq_true, if_false, true_and, and_true, reduceCtorEq, false_implies, implies_true, forall_const, ↓r_any, solso]
theorem s_fillerHead : OK Go.Proofs.Tryd.prog 65 [] (fun lo hi r => r = headV fillHd ∧ Tin lo hi (tags r)) := by
  refine fn_ok k65 rfl ?_
  generalize OK Go.Proofs.Tryd.prog = L at *
  intro lo
  simp -dsimp only [↓SD, SP, ↓reduceIte, Nat.reduceEqDiff, ini, frz, rdAo, rd3o, rd2o, rdpo, rd1o, fnv, intv, VOp.dst, getRo, solEo, solo, solo1, allsz, List.all_cons, List.all_nil, Bool.and_true, beq_self_eq_true, List.length_cons, List.length_nil, Nat.zero_add, srcv, Nat.le_refl, List.take_succ_cons, List.take_zero, and_self, if_true, Nat.reduceAdd, Nat.reduceLT, eq_self, c65]
  refine bal_mk fun b hb => ?_
  simp -dsimp only [↓SD, SP, ↓reduceIte, Nat.reduceEqDiff, ini, frz, rdAo, rd3o, rd2o, rdpo, rd1o, fnv, intv, VOp.dst, getRo, solEo, solo, solo1, allsz, List.all_cons, List.all_nil, Bool.and_true, beq_self_eq_true, List.length_cons, List.length_nil, Nat.zero_add, srcv, Nat.le_refl, List.take_succ_cons, List.take_zero, and_self, if_true, Nat.reduceAdd, Nat.reduceLT, eq_self, fldAv, ↓ldv_f, ↓ldv_n, ↓stv_f, ↓stv_a, fldv, setf, bldv, small, Bool.true_and, List.getElem?_cons_zero, List.getElem?_cons_succ, List.set_cons_zero, List.set_cons_succ, Bool.false_eq_true, if_false, true_and, and_true, reduceCtorEq, false_implies, implies_true, forall_const, solso]
  exact ⟨rfl, Tin.nil⟩
def wfHds (hs : List HeadL) : Prop := hs.length ≤ 9223372036854775807 ∧ ∀ h ∈ hs, wfHd h
def okHds (hs : List HeadL) : Prop := hs.length ≤ 1000000 ∧ ∀ h ∈ hs, okHd h
theorem s_szHeadS (xs : List HeadL) (k : Nat) (hk : k ≤ 1000000) (hw : wfHds xs) : OK Go.Proofs.Tryd.prog 29 [headsV xs, .int .i64 k] (fun _ _ r => SzR (okHds xs) k r) :=
  g_sz (f := 29) (s := 2) (fT := 59) k29 el_head okHd xs k hk hw.1 fun x hx k hk => s_szHead x k hk (hw.2 x hx)
def IsHeads (lo hi : Nat) (xs : List HeadL) (bare : Bool) (r : AV) : Prop := IsL 2 (fun _ _ x r => r = headV x) (fun r => r = headV fillHd) lo hi xs bare r
theorem s_toHeadS (xs : List HeadL) (bare : Bool) (ho : okHds xs) : OK Go.Proofs.Tryd.prog 32 [headsV xs, .bool bare] (fun lo hi r => IsHeads lo hi xs bare r) :=
  g_to2 (f := 32) (s := 2) (bytes := 24) (fT := 64) (fF := 65) (fR := 47) (z := .agg [.str ⟨#[]⟩, .int .i64 0]) k32 (by decide) (by decide) el_head _ _
    (fun lo hi x r hr => by subst hr; exact ⟨⟨_, rfl, rfl⟩, Tin.nil, fun H => sol_wk (.refl _) (pl_head (fl := false) x) H⟩) (fun r hr => by subst hr; exact ⟨⟨_, rfl, rfl⟩, fun H => sol_wk (.refl _) (pl_head (fl := false) fillHd) H⟩) xs bare ho.1 (fun k hk => s54 k hk) (fun x hx => s_toHead x)
    s_fillerHead
abbrev headsF (xs : List HeadL) : AV := fullL headV headV fillHd xs
theorem IsHeads.wk {lo hi : Nat} {xs : List HeadL} {bare : Bool} {r : AV} (h : IsHeads lo hi xs bare r) : Wk r (headsV xs) := IsL.wk (fun _ _ _ _ h => by rw [h]; exact .refl _) h
theorem IsHeads.wkF {lo hi : Nat} {xs : List HeadL} {r : AV} (h : IsHeads lo hi xs false r) : Wk r (headsF xs) := IsL.wkF (e := headV) (fx := fillHd) (fun _ h => by rw [h]; exact .refl _) (fun _ _ _ _ h => by rw [h]; exact .refl _) h
theorem IsL.fld {α : Type} {s : Nat} {Is : Nat → Nat → α → AV → Prop} {Fl : AV → Prop} {lo hi : Nat} {xs : List α} {bare : Bool} {r : AV} (h : IsL s Is Fl lo hi xs bare r) : r.isAgg = false ∧ r.sz = 1 := by
  rcases h with ⟨_, rfl, _⟩ | ⟨g, rows, _, _, rfl, _⟩ <;> exact ⟨rfl, rfl⟩
theorem s_eqHead (x y : HeadL) : OK Go.Proofs.Tryd.prog 102 [headV x, headV y] (fun _ _ r => r = .bool (decide (x = y))) := by
  refine fn_ok k102 rfl ?_
  generalize OK Go.Proofs.Tryd.prog = L at *
  intro lo
  obtain ⟨a, l⟩ := x
  obtain ⟨a', l'⟩ := y
  simp -dsimp only [↓SD, SP, ↓reduceIte, Nat.reduceEqDiff, ini, frz, rdAo, rd3o, rd2o, rdpo, rd1o, fnv, intv, VOp.dst, getRo, solEo, solo, solo1, allsz, List.all_cons, List.all_nil, Bool.and_true, beq_self_eq_true, List.length_cons, List.length_nil, Nat.zero_add, srcv, Nat.le_refl, List.take_succ_cons, List.take_zero, and_self, if_true, Nat.reduceAdd, Nat.reduceLT, eq_self, c102, headV]
  refine bal_mk fun b hb => ?_
  simp -dsimp only [↓SD, SP, ↓reduceIte, Nat.reduceEqDiff, ini, frz, rdAo, rd3o, rd2o, rdpo, rd1o, fnv, intv, VOp.dst, getRo, solEo, solo, solo1, allsz, List.all_cons, List.all_nil, Bool.and_true, beq_self_eq_true, List.length_cons, List.length_nil, Nat.zero_add, srcv, Nat.le_refl, List.take_succ_cons, List.take_zero, and_self, if_true, Nat.reduceAdd, Nat.reduceLT, eq_self]
  refine bal_mk fun b1 hb1 => ?_
  by_cases ha : a = a'
  · by_cases hl : l = l'
    · (simp -dsimp only [↓SD, SP, ↓reduceIte, Nat.reduceEqDiff, ini, frz, rdAo, rd3o, rd2o, rdpo, rd1o, fnv, intv, VOp.dst, getRo, solEo, solo, solo1, allsz, List.all_cons, List.all_nil, Bool.and_true, beq_self_eq_true, List.length_cons, List.length_nil, Nat.zero_add, srcv, Nat.le_refl, List.take_succ_cons, List.take_zero, and_self, if_true, Nat.reduceAdd, Nat.reduceLT, eq_self, fldAv, ↓ldv_f, ↓ldv_n, ↓stv_f, ↓stv_a, fldv, setf, bldv, small, Bool.true_and, List.getElem?_cons_zero, List.getElem?_cons_succ, List.set_cons_zero, List.set_cons_succ, Bool.false_eq_true, if_false, true_and, and_true, reduceCtorEq, false_implies, implies_true, forall_const, ha, hl]) <;> simp [ha, hl]
    · (simp -dsimp only [↓SD, SP, ↓reduceIte, Nat.reduceEqDiff, ini, frz, rdAo, rd3o, rd2o, rdpo, rd1o, fnv, intv, VOp.dst, getRo, solEo, solo, solo1, allsz, List.all_cons, List.all_nil, Bool.and_true, beq_self_eq_true, List.length_cons, List.length_nil, Nat.zero_add, srcv, Nat.le_refl, List.take_succ_cons, List.take_zero, and_self, if_true, Nat.reduceAdd, Nat.reduceLT, eq_self, fldAv, ↓ldv_f, ↓ldv_n, ↓stv_f, ↓stv_a, fldv, setf, bldv, small, Bool.true_and, List.getElem?_cons_zero, List.getElem?_cons_succ, List.set_cons_zero, List.set_cons_succ, Bool.false_eq_true, if_false, true_and, and_true, reduceCtorEq, false_implies, implies_true, forall_const, ha, hl]) <;> simp [hl]
  · (simp -dsimp only [↓SD, SP, ↓reduceIte, Nat.reduceEqDiff, ini, frz, rdAo, rd3o, rd2o, rdpo, rd1o, fnv, intv, VOp.dst, getRo, solEo, solo, solo1, allsz, List.all_cons, List.all_nil, Bool.and_true, beq_self_eq_true, List.length_cons, List.length_nil, Nat.zero_add, srcv, Nat.le_refl, List.take_succ_cons, List.take_zero, and_self, if_true, Nat.reduceAdd, Nat.reduceLT, eq_self, fldAv, ↓ldv_f, ↓ldv_n, ↓stv_f, ↓stv_a, fldv, setf, bldv, small, Bool.true_and, List.getElem?_cons_zero, List.getElem?_cons_succ, List.set_cons_zero, List.set_cons_succ, Bool.false_eq_true, if_false, true_and, and_true, reduceCtorEq, false_implies, implies_true, forall_const, ha]) <;> simp [ha]
theorem s_eqHeadS (xs ys : List HeadL) (hx : xs.length ≤ 10000000) : OK Go.Proofs.Tryd.prog 72 [headsV xs, headsV ys] (fun _ _ r => r = .bool (decide (xs = ys))) :=
  g_eq (f := 72) (s := 2) (fE := 102) k72 el_head xs ys hx fun x hx y hy => s_eqHead x y
theorem s_intactHeadS (xs : List HeadL) (hn : xs.length ≤ 1000000) : OK Go.Proofs.Tryd.prog 36 [headsF xs, headsF xs] (fun _ _ r => r = .bool true) := by
  refine fn_ok k36 rfl ?_
  have hrm := rm_le xs.length
  have h54 := s54 xs.length hn
  have h49 := s_eqHeadS (xs ++ List.replicate (rm xs.length) fillHd) (xs ++ List.replicate (rm xs.length) fillHd) (by simp; omega)
  generalize OK Go.Proofs.Tryd.prog = L at h54 h49 ⊢
  intro lo
  have l1 : lenv false (headsF xs) = some xs.length := rfl
  simp -dsimp only [↓SD, SP, ↓reduceIte, Nat.reduceEqDiff, ini, frz, rdAo, rd3o, rd2o, rdpo, rd1o, fnv, intv, VOp.dst, getRo, solEo, solo, solo1, allsz, List.all_cons, List.all_nil, Bool.and_true, beq_self_eq_true, List.length_cons, List.length_nil, Nat.zero_add, srcv, Nat.le_refl, List.take_succ_cons, List.take_zero, and_self, if_true, Nat.reduceAdd, Nat.reduceLT, eq_self, c36, l1]
  refine call_rule h54 ?_
  rintro lo' hi' r g1 g2 rfl
  have e1 : ∀ H : Hp, slcv H 2 (headsF xs) none (some (.int .i64 ((xs.length : Int) + rm xs.length))) = some (headsV (xs ++ List.replicate (rm xs.length) fillHd)) := fun H => by
    simp [slcv, fullL, lv, show ((xs.length : Int) + rm xs.length).toNat = xs.length + rm xs.length by omega]
    omega
  simp -dsimp only [↓SD, SP, ↓reduceIte, Nat.reduceEqDiff, ini, frz, rdAo, rd3o, rd2o, rdpo, rd1o, fnv, intv, VOp.dst, getRo, solEo, solo, solo1, allsz, List.all_cons, List.all_nil, Bool.and_true, beq_self_eq_true, List.length_cons, List.length_nil, Nat.zero_add, srcv, Nat.le_refl, List.take_succ_cons, List.take_zero, and_self, if_true, Nat.reduceAdd, Nat.reduceLT, eq_self, l1, wrap64 ((xs.length : Int) + rm xs.length) (by omega), e1, ↓rd_lv, ↓r_any]
  refine call_rule h49 ?_
  rintro lo' hi' r g1 g2 rfl
  simp -dsimp only [↓SD, SP, ↓reduceIte, Nat.reduceEqDiff, ini, frz, rdAo, rd3o, rd2o, rdpo, rd1o, fnv, intv, VOp.dst, getRo, solEo, solo, solo1, allsz, List.all_cons, List.all_nil, Bool.and_true, beq_self_eq_true, List.length_cons, List.length_nil, Nat.zero_add, srcv, Nat.le_refl, List.take_succ_cons, List.take_zero, and_self, if_true, Nat.reduceAdd, Nat.reduceLT, eq_self, decide_true]
end Go.AVM

/- Commits and repositories: what the law's helpers give. -/
set_option linter.unusedSimpArgs false
set_option linter.unusedVariables false
namespace Go.AVM
def commitV (c : CommitL) : AV := .agg [ints c.parents, .str c.who, filesV c.tree]
def commitF (c : CommitL) : AV := .agg [intsF c.parents, .str c.who, filesF c.tree]
abbrev commitsV (cs : List CommitL) : AV := lv commitV cs
def fillC : CommitL := ⟨[fillN], spare, [fillFl]⟩
def wfC (c : CommitL) : Prop := c.parents.length ≤ 9223372036854775807 ∧ c.who.size ≤ 9223372036854775807 ∧ wfFs c.tree
def okC (c : CommitL) : Prop := c.parents.length ≤ 1000000 ∧ c.who.size ≤ 1000000 ∧ okFs c.tree
theorem pl_commit {fl : Bool} (c : CommitL) : Pl fl (commitV c) := .agg _ fun g hg => by
  simp at hg
  rcases hg with rfl | rfl | rfl
  · exact pf_ints _
  · exact .str _
  · exact pf_lv _ _
theorem pl_commitF (c : CommitL) : Pl true (commitF c) := .agg _ fun g hg => by
  simp at hg
  rcases hg with rfl | rfl | rfl
  · exact pf_intsF _
  · exact .str _
  · exact pf_full _ _ _ _
theorem rd_commit (H : Hp) (c : CommitL) : rd3o false H (commitV c) = some (commitV c, []) := by
  have h1 : (c.parents.map iz).take c.parents.length = c.parents.map iz := List.take_of_length_le (by simp)
  have h2 : (c.tree.map fileV).take c.tree.length = c.tree.map fileV := List.take_of_length_le (by simp)
  simp [commitV, ints, lv, rd3o, rd2o, rdpo, rdso, rd1o, h1, h2]
theorem rd_commitF (H : Hp) (c : CommitL) : rd3o true H (commitF c) = some (commitF c, []) := by
  simp [commitF, intsF, fullL, rd3o, rd2o, rdpo, rdso, rd1o]
theorem el_commit : El 3 commitV := ⟨fun x => ⟨_, rfl, rfl⟩, rd_commit⟩
theorem sz_commit (c : CommitL) : (commitV c).sz = 3 := Eq.trans rfl rfl
theorem fz_commit (c : CommitL) : fitsz (some 3) (commitV c) = true := by simp [fitsz, commitV]
theorem fa_c0 (c : CommitL) : fldAv 0 (.lptr (commitV c)) = some (.lptr (ints c.parents)) := by simp [fldAv, commitV, ints, AV.isAgg, AV.sz]
theorem fa_c1 (c : CommitL) : fldAv 1 (.lptr (commitV c)) = some (.lptr (.str c.who)) := by simp [fldAv, commitV, ints, AV.isAgg, AV.sz]
theorem fa_c2 (c : CommitL) : fldAv 2 (.lptr (commitV c)) = some (.lptr (filesV c.tree)) := by simp [fldAv, commitV, ints, lv, AV.isAgg, AV.sz]
theorem fv_c0 (c : CommitL) : fldv 0 (commitV c) = some (ints c.parents) := by simp [fldv, commitV, ints, AV.isAgg]
theorem fv_c1 (c : CommitL) : fldv 1 (commitV c) = some (.str c.who) := by simp [fldv, commitV, AV.isAgg]
theorem fv_c2 (c : CommitL) : fldv 2 (commitV c) = some (filesV c.tree) := by simp [fldv, commitV, lv, AV.isAgg]
theorem stv_cm (H : Hp) (h : CommitL) (d b s i : Nat) : stv H (some 3) (commitV h) (.optr d b s i none) = (H d).bind fun k0 => if k0.row = true then stvS H 3 (commitV h) d b s i else
    if k0.b = b ∧ k0.s = s ∧ k0.fz = false ∧ i < k0.xs.length ∧ 3 = 3 ∧ 3 = s then some (updH H d (some { k0 with xs := k0.xs.set i (commitV h) })) else none := stv_a H 3 _ d b s i
theorem s_szCommit (c : CommitL) (k : Nat) (hk : k ≤ 1000000) (hw : wfC c) : OK Go.Proofs.Tryd.prog 58 [commitV c, .int .i64 k] (fun _ _ r => ∃ i : Int, r = .int .i64 i ∧ (0 ≤ i → okC c ∧ ∃ k' : Nat, i = k' ∧ k' ≤ k)) := by
  refine fn_ok k58 rfl ?_
  obtain ⟨w1, w2, w3⟩ := hw
  have h1 := s_szIntS c.parents k hk w1
  have h2 := fun k hk => s_szFileS c.tree k hk w3
  generalize OK Go.Proofs.Tryd.prog = L at *
  intro lo
  simp -dsimp only [↓SD, SP, ↓reduceIte, Nat.reduceEqDiff, ini, frz, rdAo, rd3o, rd2o, rdpo, rd1o, fnv, intv, VOp.dst, getRo, solEo, solo, solo1, allsz, List.all_cons, List.all_nil, Bool.and_true, beq_self_eq_true, List.length_cons, List.length_nil, Nat.zero_add, srcv, Nat.le_refl, List.take_succ_cons, List.take_zero, and_self, if_true, Nat.reduceAdd, Nat.reduceLT, eq_self, c58, sz_commit]
  refine bal_mk fun b hb => ?_
  simp -dsimp only [↓SD, SP, ↓reduceIte, Nat.reduceEqDiff, ini, frz, rdAo, rd3o, rd2o, rdpo, rd1o, fnv, intv, VOp.dst, getRo, solEo, solo, solo1, allsz, List.all_cons, List.all_nil, Bool.and_true, beq_self_eq_true, List.length_cons, List.length_nil, Nat.zero_add, srcv, Nat.le_refl, List.take_succ_cons, List.take_zero, and_self, if_true, Nat.reduceAdd, Nat.reduceLT, eq_self, fa_o, ↓ldv_f, ↓ldv_n, ↓stv_f, ↓stv_a, fldv, setf, bldv, small, Bool.true_and, List.getElem?_cons_zero, List.getElem?_cons_succ, List.set_cons_zero, List.set_cons_succ, Bool.false_eq_true, if_false, true_and, and_true, reduceCtorEq, false_implies, implies_true, forall_const, ↓fv_c0, ↓rd_ints false, ↓r_any]
  refine call_rule h1 ?_
  rintro lo1 hi1 r g1 g2 ⟨i, rfl, hi⟩
  by_cases hneg : i < 0
  · simp -dsimp only [↓SD, SP, ↓reduceIte, Nat.reduceEqDiff, ini, frz, rdAo, rd3o, rd2o, rdpo, rd1o, fnv, intv, VOp.dst, getRo, solEo, solo, solo1, allsz, List.all_cons, List.all_nil, Bool.and_true, beq_self_eq_true, List.length_cons, List.length_nil, Nat.zero_add, srcv, Nat.le_refl, List.take_succ_cons, List.take_zero, and_self, if_true, Nat.reduceAdd, Nat.reduceLT, eq_self, fa_o, ↓ldv_f, ↓ldv_n, ↓stv_f, ↓stv_a, fldv, setf, bldv, small, Bool.true_and, List.getElem?_cons_zero, List.getElem?_cons_succ, List.set_cons_zero, List.set_cons_succ, Bool.false_eq_true, if_false, true_and, and_true, reduceCtorEq, false_implies, implies_true, forall_const, hneg, ↓r_any]
    exact ⟨_, rfl, by omega⟩
  obtain ⟨ho, k1, rfl, hk1⟩ := hi (by omega)
  by_cases hneg1 : (k1 : Int) - c.who.size < 0
  · simp -dsimp only [↓SD, SP, ↓reduceIte, Nat.reduceEqDiff, ini, frz, rdAo, rd3o, rd2o, rdpo, rd1o, fnv, intv, VOp.dst, getRo, solEo, solo, solo1, allsz, List.all_cons, List.all_nil, Bool.and_true, beq_self_eq_true, List.length_cons, List.length_nil, Nat.zero_add, srcv, Nat.le_refl, List.take_succ_cons, List.take_zero, and_self, if_true, Nat.reduceAdd, Nat.reduceLT, eq_self, fa_o, ↓ldv_f, ↓ldv_n, ↓stv_f, ↓stv_a, fldv, setf, bldv, small, Bool.true_and, List.getElem?_cons_zero, List.getElem?_cons_succ, List.set_cons_zero, List.set_cons_succ, Bool.false_eq_true, if_false, true_and, and_true, reduceCtorEq, false_implies, implies_true, forall_const, hneg, ↓fv_c1, wrap64 ((k1 : Int) - c.who.size) (by omega), hneg1, ↓r_any]
    exact ⟨_, rfl, by omega⟩
  simp -dsimp only [↓SD, SP, ↓reduceIte, Nat.reduceEqDiff, ini, frz, rdAo, rd3o, rd2o, rdpo, rd1o, fnv, intv, VOp.dst, getRo, solEo, solo, solo1, allsz, List.all_cons, List.all_nil, Bool.and_true, beq_self_eq_true, List.length_cons, List.length_nil, Nat.zero_add, srcv, Nat.le_refl, List.take_succ_cons, List.take_zero, and_self, if_true, Nat.reduceAdd, Nat.reduceLT, eq_self, fa_o, ↓ldv_f, ↓ldv_n, ↓stv_f, ↓stv_a, fldv, setf, bldv, small, Bool.true_and, List.getElem?_cons_zero, List.getElem?_cons_succ, List.set_cons_zero, List.set_cons_succ, Bool.false_eq_true, if_false, true_and, and_true, reduceCtorEq, false_implies, implies_true, forall_const, hneg, ↓fv_c1, ↓fv_c2, show (k1 : Int) - c.who.size = ((k1 - c.who.size : Nat) : Int) by omega, wrap64 ((k1 - c.who.size : Nat) : Int) (by omega), show ¬ ((k1 - c.who.size : Nat) : Int) < 0 by omega, ↓rd_lv, ↓r_any]
  refine call_rule (h2 (k1 - c.who.size) (by omega)) ?_
  rintro lo2 hi2 r g3 g4 ⟨i, rfl, hi⟩
  by_cases hneg2 : i < 0
  · simp -dsimp only [↓SD, SP, ↓reduceIte, Nat.reduceEqDiff, ini, frz, rdAo, rd3o, rd2o, rdpo, rd1o, fnv, intv, VOp.dst, getRo, solEo, solo, solo1, allsz, List.all_cons, List.all_nil, Bool.and_true, beq_self_eq_true, List.length_cons, List.length_nil, Nat.zero_add, srcv, Nat.le_refl, List.take_succ_cons, List.take_zero, and_self, if_true, Nat.reduceAdd, Nat.reduceLT, eq_self, hneg2, ↓r_any]
    exact ⟨_, rfl, by omega⟩
  obtain ⟨ho2, k2, rfl, hk2⟩ := hi (by omega)
  simp -dsimp only [↓SD, SP, ↓reduceIte, Nat.reduceEqDiff, ini, frz, rdAo, rd3o, rd2o, rdpo, rd1o, fnv, intv, VOp.dst, getRo, solEo, solo, solo1, allsz, List.all_cons, List.all_nil, Bool.and_true, beq_self_eq_true, List.length_cons, List.length_nil, Nat.zero_add, srcv, Nat.le_refl, List.take_succ_cons, List.take_zero, and_self, if_true, Nat.reduceAdd, Nat.reduceLT, eq_self, hneg2, ↓r_any]
  exact ⟨_, rfl, fun _ => ⟨⟨ho, by omega, ho2⟩, k2, rfl, by omega⟩⟩
def IsCommit (lo hi : Nat) (c : CommitL) (bare : Bool) (r : AV) : Prop := ∃ l1 l3 m1 m2, r = .agg [l1, .str c.who, l3] ∧ lo ≤ m1 ∧ m1 ≤ m2 ∧ m2 ≤ hi ∧ IsInt lo m1 c.parents l1 ∧ IsL 2 (fun lo hi x r => IsFile lo hi x bare r) FlF m2 hi c.tree bare l3 ∧ (bare = false → Wk l1 (intsF c.parents) ∧ Wk l3 (filesF c.tree))
theorem isL_filesWk {lo hi : Nat} {xs : List FileL} {bare : Bool} {r : AV} (h : IsL 2 (fun lo hi x r => IsFile lo hi x bare r) FlF lo hi xs bare r) : Wk r (filesV xs) := IsL.wk (fun _ _ _ _ h => h.wk) h
theorem isL_filesWkF {lo hi : Nat} {xs : List FileL} {r : AV} (h : IsL 2 (fun lo hi x r => IsFile lo hi x false r) FlF lo hi xs false r) : Wk r (filesF xs) := IsL.wkF (e := fileV) (fx := fillFl) (fun _ h => h.wk) (fun _ _ _ _ h => h.wkF) h
theorem IsCommit.wk {lo hi : Nat} {c : CommitL} {bare : Bool} {r : AV} (h : IsCommit lo hi c bare r) : Wk r (commitV c) := by
  obtain ⟨l1, l3, m1, m2, rfl, _, _, _, q1, q3, _⟩ := h
  exact wk_l3 q1.wk (.refl _) (isL_filesWk q3)
theorem IsCommit.wkF {lo hi : Nat} {c : CommitL} {r : AV} (h : IsCommit lo hi c false r) : Wk r (commitF c) := by
  obtain ⟨l1, l3, m1, m2, rfl, _, _, _, q1, q3, q⟩ := h
  exact wk_l3 (q rfl).1 (.refl _) (q rfl).2
theorem IsCommit.tin {lo hi : Nat} {c : CommitL} {bare : Bool} {r : AV} (h : IsCommit lo hi c bare r) : Tin lo hi (tags r) := by
  obtain ⟨l1, l3, m1, m2, rfl, h1, h2, h3, q1, q3, q⟩ := h
  simp only [tags, tagsL, List.nil_append, List.append_nil]
  exact q1.tin.app q3.tin h2 (by omega) (by omega)
theorem s_toCommit (c : CommitL) (bare : Bool) (ho : okC c) : OK Go.Proofs.Tryd.prog 62 [commitV c, .bool bare] (fun lo hi r => IsCommit lo hi c bare r) := by
  refine fn_ok k62 rfl ?_
  have h1 := s_toIntS c.parents bare ho.1
  have h3 := s_toFileS c.tree bare ho.2.2
  generalize OK Go.Proofs.Tryd.prog = L at *
  intro lo
  simp -dsimp only [↓SD, SP, ↓reduceIte, Nat.reduceEqDiff, ini, frz, rdAo, rd3o, rd2o, rdpo, rd1o, fnv, intv, VOp.dst, getRo, solEo, solo, solo1, allsz, List.all_cons, List.all_nil, Bool.and_true, beq_self_eq_true, List.length_cons, List.length_nil, Nat.zero_add, srcv, Nat.le_refl, List.take_succ_cons, List.take_zero, and_self, if_true, Nat.reduceAdd, Nat.reduceLT, eq_self, c62, sz_commit]
  refine bal_mk fun b hb => ?_
  simp -dsimp only [↓SD, SP, ↓reduceIte, Nat.reduceEqDiff, ini, frz, rdAo, rd3o, rd2o, rdpo, rd1o, fnv, intv, VOp.dst, getRo, solEo, solo, solo1, allsz, List.all_cons, List.all_nil, Bool.and_true, beq_self_eq_true, List.length_cons, List.length_nil, Nat.zero_add, srcv, Nat.le_refl, List.take_succ_cons, List.take_zero, and_self, if_true, Nat.reduceAdd, Nat.reduceLT, eq_self]
  refine bal_mk fun b1 hb1 => ?_
  simp -dsimp only [↓SD, SP, ↓reduceIte, Nat.reduceEqDiff, ini, frz, rdAo, rd3o, rd2o, rdpo, rd1o, fnv, intv, VOp.dst, getRo, solEo, solo, solo1, allsz, List.all_cons, List.all_nil, Bool.and_true, beq_self_eq_true, List.length_cons, List.length_nil, Nat.zero_add, srcv, Nat.le_refl, List.take_succ_cons, List.take_zero, and_self, if_true, Nat.reduceAdd, Nat.reduceLT, eq_self]
  refine bal_mk fun b2 hb2 => ?_
  simp -dsimp only [↓SD, SP, ↓reduceIte, Nat.reduceEqDiff, ini, frz, rdAo, rd3o, rd2o, rdpo, rd1o, fnv, intv, VOp.dst, getRo, solEo, solo, solo1, allsz, List.all_cons, List.all_nil, Bool.and_true, beq_self_eq_true, List.length_cons, List.length_nil, Nat.zero_add, srcv, Nat.le_refl, List.take_succ_cons, List.take_zero, and_self, if_true, Nat.reduceAdd, Nat.reduceLT, eq_self, fa_o, ↓ldv_f, ↓ldv_n, ↓stv_f, ↓stv_a, fldv, setf, bldv, small, Bool.true_and, List.getElem?_cons_zero, List.getElem?_cons_succ, List.set_cons_zero, List.set_cons_succ, Bool.false_eq_true, if_false, true_and, and_true, reduceCtorEq, false_implies, implies_true, forall_const, ↓fv_c0, ↓rd_ints false, ↓r_any]
  refine call_rule h1 ?_
  rintro lo1 hi1 l1 g1 g2 ⟨q1, q1'⟩
  obtain ⟨a1, a1'⟩ := q1.fld
  have e1 := fun H => sol1_wk (fl := false) (pf_ints c.parents) q1.wk H
  simp -dsimp only [↓SD, SP, ↓reduceIte, Nat.reduceEqDiff, ini, frz, rdAo, rd3o, rd2o, rdpo, rd1o, fnv, intv, VOp.dst, getRo, solEo, solo, solo1, allsz, List.all_cons, List.all_nil, Bool.and_true, beq_self_eq_true, List.length_cons, List.length_nil, Nat.zero_add, srcv, Nat.le_refl, List.take_succ_cons, List.take_zero, and_self, if_true, Nat.reduceAdd, Nat.reduceLT, eq_self, fa_o, ↓ldv_f, ↓ldv_n, ↓stv_f, ↓stv_a, fldv, setf, bldv, small, Bool.true_and, List.getElem?_cons_zero, List.getElem?_cons_succ, List.set_cons_zero, List.set_cons_succ, Bool.false_eq_true, if_false, true_and, and_true, reduceCtorEq, false_implies, implies_true, forall_const, ↓r_any, a1, a1', ↓e1, ↓fv_c1, ↓fv_c2, ↓rd_lv]
  refine call_rule h3 ?_
  rintro lo3 hi3 l3 g3 g4 q3
  obtain ⟨a3, a3'⟩ := q3.fld
  have e3 := fun H => sol1_wk (fl := false) (pf_lv fileV c.tree) (isL_filesWk q3) H
  simp -dsimp only [↓SD, SP, ↓reduceIte, Nat.reduceEqDiff, ini, frz, rdAo, rd3o, rd2o, rdpo, rd1o, fnv, intv, VOp.dst, getRo, solEo, solo, solo1, allsz, List.all_cons, List.all_nil, Bool.and_true, beq_self_eq_true, List.length_cons, List.length_nil, Nat.zero_add, srcv, Nat.le_refl, List.take_succ_cons, List.take_zero, and_self, if_true, Nat.reduceAdd, Nat.reduceLT, eq_self, fa_o, ↓ldv_f, ↓ldv_n, ↓stv_f, ↓stv_a, fldv, setf, bldv, small, Bool.true_and, List.getElem?_cons_zero, List.getElem?_cons_succ, List.set_cons_zero, List.set_cons_succ, Bool.false_eq_true, if_false, true_and, and_true, reduceCtorEq, false_implies, implies_true, forall_const, ↓r_any, a1, a1', a3, a3', ↓e1, ↓e3, solso]
  refine ⟨l1, l3, hi1, lo3, rfl, by omega, by omega, by omega, q1.mono (by omega) (Nat.le_refl _), q3, fun hb => ?_⟩
  subst hb
  obtain ⟨b1, _, _, rfl⟩ := q1' rfl
  exact ⟨Wk.strip _ _ _ (by simp [roomyI]), isL_filesWkF q3⟩
def FlC (r : AV) : Prop := (∃ fs, r = .agg fs ∧ fs.length = 3) ∧ Wk r (commitV fillC)
theorem s_fillerCommit : OK Go.Proofs.Tryd.prog 63 [] (fun lo hi r => FlC r ∧ Tin lo hi (tags r)) := by
  refine fn_ok k63 rfl ?_
  have h1 := s_fillerFile
  generalize OK Go.Proofs.Tryd.prog = L at *
  intro lo
  simp -dsimp only [↓SD, SP, ↓reduceIte, Nat.reduceEqDiff, ini, frz, rdAo, rd3o, rd2o, rdpo, rd1o, fnv, intv, VOp.dst, getRo, solEo, solo, solo1, allsz, List.all_cons, List.all_nil, Bool.and_true, beq_self_eq_true, List.length_cons, List.length_nil, Nat.zero_add, srcv, Nat.le_refl, List.take_succ_cons, List.take_zero, and_self, if_true, Nat.reduceAdd, Nat.reduceLT, eq_self, c63]
  refine bal_mk fun b hb => ?_
  simp -dsimp only [↓SD, SP, ↓reduceIte, Nat.reduceEqDiff, ini, frz, rdAo, rd3o, rd2o, rdpo, rd1o, fnv, intv, VOp.dst, getRo, solEo, solo, solo1, allsz, List.all_cons, List.all_nil, Bool.and_true, beq_self_eq_true, List.length_cons, List.length_nil, Nat.zero_add, srcv, Nat.le_refl, List.take_succ_cons, List.take_zero, and_self, if_true, Nat.reduceAdd, Nat.reduceLT, eq_self]
  refine bal_mk fun b1 hb1 => ?_
  simp -dsimp only [↓SD, SP, ↓reduceIte, Nat.reduceEqDiff, ini, frz, rdAo, rd3o, rd2o, rdpo, rd1o, fnv, intv, VOp.dst, getRo, solEo, solo, solo1, allsz, List.all_cons, List.all_nil, Bool.and_true, beq_self_eq_true, List.length_cons, List.length_nil, Nat.zero_add, srcv, Nat.le_refl, List.take_succ_cons, List.take_zero, and_self, if_true, Nat.reduceAdd, Nat.reduceLT, eq_self, ↓r_any]
  refine call_rule h1 ?_
  rintro lo1 hi1 r g1 g2 ⟨⟨b2, rfl⟩, ht⟩
  simp -dsimp only [↓SD, SP, ↓reduceIte, Nat.reduceEqDiff, ini, frz, rdAo, rd3o, rd2o, rdpo, rd1o, fnv, intv, VOp.dst, getRo, solEo, solo, solo1, allsz, List.all_cons, List.all_nil, Bool.and_true, beq_self_eq_true, List.length_cons, List.length_nil, Nat.zero_add, srcv, Nat.le_refl, List.take_succ_cons, List.take_zero, and_self, if_true, Nat.reduceAdd, Nat.reduceLT, eq_self, fldAv, ↓ldv_f, ↓ldv_n, ↓stv_f, ↓stv_a, fldv, setf, bldv, small, Bool.true_and, List.getElem?_cons_zero, List.getElem?_cons_succ, List.set_cons_zero, List.set_cons_succ, Bool.false_eq_true, if_false, true_and, and_true, reduceCtorEq, false_implies, implies_true, forall_const, ↓r_any, solso]
  refine bal_mk fun b3 hb3 => ?_
  simp -dsimp only [↓SD, SP, ↓reduceIte, Nat.reduceEqDiff, ini, frz, rdAo, rd3o, rd2o, rdpo, rd1o, fnv, intv, VOp.dst, getRo, solEo, solo, solo1, allsz, List.all_cons, List.all_nil, Bool.and_true, beq_self_eq_true, List.length_cons, List.length_nil, Nat.zero_add, srcv, Nat.le_refl, List.take_succ_cons, List.take_zero, and_self, if_true, Nat.reduceAdd, Nat.reduceLT, eq_self, fldAv, ↓ldv_f, ↓ldv_n, ↓stv_f, ↓stv_a, fldv, setf, bldv, small, Bool.true_and, List.getElem?_cons_zero, List.getElem?_cons_succ, List.set_cons_zero, List.set_cons_succ, Bool.false_eq_true, if_false, true_and, and_true, reduceCtorEq, false_implies, implies_true, forall_const, solso]
  have hb2 := ht.2 b2 (by simp [tags, tagsL])
  refine ⟨⟨⟨_, rfl, rfl⟩, wk_l3 (Wk.strip _ _ _ (by simp)) (.refl _) ?_⟩, ?_⟩
  · refine .lsl _ _ _ _ (by simp [fillC]) (by simp [fillC]) fun i x y hx hy => ?_
    rcases i with _ | i
    · simp [fillC] at hx hy
      subst hx hy
      exact FlF.wk ⟨b2, rfl⟩
    · simp at hx
  · simp only [tags, tagsL, List.nil_append, List.append_nil, List.cons_append]
    refine ⟨by simp; omega, fun q hq => ?_⟩
    simp at hq
    omega
def wfCs (cs : List CommitL) : Prop := cs.length ≤ 9223372036854775807 ∧ ∀ c ∈ cs, wfC c
def okCs (cs : List CommitL) : Prop := cs.length ≤ 1000000 ∧ ∀ c ∈ cs, okC c
theorem s_szCommitS (xs : List CommitL) (k : Nat) (hk : k ≤ 1000000) (hw : wfCs xs) : OK Go.Proofs.Tryd.prog 28 [commitsV xs, .int .i64 k] (fun _ _ r => SzR (okCs xs) k r) :=
  g_sz (f := 28) (s := 3) (fT := 58) k28 el_commit okC xs k hk hw.1 fun x hx k hk => s_szCommit x k hk (hw.2 x hx)
def IsCommits (lo hi : Nat) (xs : List CommitL) (bare : Bool) (r : AV) : Prop := IsL 3 (fun lo hi x r => IsCommit lo hi x bare r) FlC lo hi xs bare r
theorem IsCommit.agg {lo hi : Nat} {c : CommitL} {bare : Bool} {r : AV} (h : IsCommit lo hi c bare r) : ∃ fs, r = .agg fs ∧ fs.length = 3 := by
  obtain ⟨l1, l3, m1, m2, rfl, _⟩ := h
  exact ⟨_, rfl, rfl⟩
theorem s_toCommitS (xs : List CommitL) (bare : Bool) (ho : okCs xs) : OK Go.Proofs.Tryd.prog 31 [commitsV xs, .bool bare] (fun lo hi r => IsCommits lo hi xs bare r) :=
  g_to (f := 31) (s := 3) (bytes := 64) (fT := 62) (fF := 63) (fR := 47) (z := .agg [.emp, .str ⟨#[]⟩, .emp]) k31 (by decide) (by decide) el_commit _ _
    (fun lo hi x r hr => ⟨hr.agg, hr.tin, fun H => sol_wk hr.wk (pl_commit (fl := false) x) H⟩) (fun r hr => ⟨hr.1, fun H => sol_wk hr.2 (pl_commit (fl := false) fillC) H⟩) xs bare ho.1 (fun k hk => s54 k hk) (fun x hx => s_toCommit x bare (ho.2 x hx))
    s_fillerCommit
abbrev commitsF (xs : List CommitL) : AV := fullL commitF commitV fillC xs
theorem IsCommits.wk {lo hi : Nat} {xs : List CommitL} {bare : Bool} {r : AV} (h : IsCommits lo hi xs bare r) : Wk r (commitsV xs) := IsL.wk (fun _ _ _ _ h => h.wk) h
theorem IsCommits.wkF {lo hi : Nat} {xs : List CommitL} {r : AV} (h : IsCommits lo hi xs false r) : Wk r (commitsF xs) := IsL.wkF (e := commitV) (fx := fillC) (fun _ h => h.2) (fun _ _ _ _ h => h.wkF) h
theorem s_eqCommit (x y : CommitL) (h1 : x.parents.length ≤ 10000000) (h2 : x.tree.length ≤ 10000000) (h3 : ∀ f ∈ x.tree, f.text.length ≤ 10000000) : OK Go.Proofs.Tryd.prog 101 [commitV x, commitV y] (fun _ _ r => r = .bool (decide (x = y))) := by
  refine fn_ok k101 rfl ?_
  have e1 := s_eqIntS x.parents y.parents h1
  have e2 := s_eqFileS x.tree y.tree h2 h3
  generalize OK Go.Proofs.Tryd.prog = L at *
  intro lo
  obtain ⟨a, w, l⟩ := x
  obtain ⟨a', w', l'⟩ := y
  simp -dsimp only [↓SD, SP, ↓reduceIte, Nat.reduceEqDiff, ini, frz, rdAo, rd3o, rd2o, rdpo, rd1o, fnv, intv, VOp.dst, getRo, solEo, solo, solo1, allsz, List.all_cons, List.all_nil, Bool.and_true, beq_self_eq_true, List.length_cons, List.length_nil, Nat.zero_add, srcv, Nat.le_refl, List.take_succ_cons, List.take_zero, and_self, if_true, Nat.reduceAdd, Nat.reduceLT, eq_self, c101, sz_commit]
  refine bal_mk fun b hb => ?_
  simp -dsimp only [↓SD, SP, ↓reduceIte, Nat.reduceEqDiff, ini, frz, rdAo, rd3o, rd2o, rdpo, rd1o, fnv, intv, VOp.dst, getRo, solEo, solo, solo1, allsz, List.all_cons, List.all_nil, Bool.and_true, beq_self_eq_true, List.length_cons, List.length_nil, Nat.zero_add, srcv, Nat.le_refl, List.take_succ_cons, List.take_zero, and_self, if_true, Nat.reduceAdd, Nat.reduceLT, eq_self, sz_commit]
  refine bal_mk fun b1 hb1 => ?_
  simp -dsimp only [↓SD, SP, ↓reduceIte, Nat.reduceEqDiff, ini, frz, rdAo, rd3o, rd2o, rdpo, rd1o, fnv, intv, VOp.dst, getRo, solEo, solo, solo1, allsz, List.all_cons, List.all_nil, Bool.and_true, beq_self_eq_true, List.length_cons, List.length_nil, Nat.zero_add, srcv, Nat.le_refl, List.take_succ_cons, List.take_zero, and_self, if_true, Nat.reduceAdd, Nat.reduceLT, eq_self, fa_o, ↓ldv_f, ↓ldv_n, ↓stv_f, ↓stv_a, fldv, setf, bldv, small, Bool.true_and, List.getElem?_cons_zero, List.getElem?_cons_succ, List.set_cons_zero, List.set_cons_succ, Bool.false_eq_true, if_false, true_and, and_true, reduceCtorEq, false_implies, implies_true, forall_const, ↓fv_c0, ↓rd_ints false, ↓r_any]
  refine call_rule e1 ?_
  rintro lo1 hi1 r - - rfl
  by_cases ha : a = a'
  · by_cases hw : w = w'
    · simp -dsimp only [↓SD, SP, ↓reduceIte, Nat.reduceEqDiff, ini, frz, rdAo, rd3o, rd2o, rdpo, rd1o, fnv, intv, VOp.dst, getRo, solEo, solo, solo1, allsz, List.all_cons, List.all_nil, Bool.and_true, beq_self_eq_true, List.length_cons, List.length_nil, Nat.zero_add, srcv, Nat.le_refl, List.take_succ_cons, List.take_zero, and_self, if_true, Nat.reduceAdd, Nat.reduceLT, eq_self, fa_o, ↓ldv_f, ↓ldv_n, ↓stv_f, ↓stv_a, fldv, setf, bldv, small, Bool.true_and, List.getElem?_cons_zero, List.getElem?_cons_succ, List.set_cons_zero, List.set_cons_succ, Bool.false_eq_true, if_false, true_and, and_true, reduceCtorEq, false_implies, implies_true, forall_const, ha, hw, ↓fv_c1, ↓fv_c2, ↓rd_lv, ↓r_any, decide_true]
      refine call_rule e2 ?_
      rintro lo2 hi2 r - - rfl
      by_cases hl : l = l'
      · (simp -dsimp only [↓SD, SP, ↓reduceIte, Nat.reduceEqDiff, ini, frz, rdAo, rd3o, rd2o, rdpo, rd1o, fnv, intv, VOp.dst, getRo, solEo, solo, solo1, allsz, List.all_cons, List.all_nil, Bool.and_true, beq_self_eq_true, List.length_cons, List.length_nil, Nat.zero_add, srcv, Nat.le_refl, List.take_succ_cons, List.take_zero, and_self, if_true, Nat.reduceAdd, Nat.reduceLT, eq_self, hl, ↓r_any, decide_true]) <;> simp [ha, hw, hl]
      · (simp -dsimp only [↓SD, SP, ↓reduceIte, Nat.reduceEqDiff, ini, frz, rdAo, rd3o, rd2o, rdpo, rd1o, fnv, intv, VOp.dst, getRo, solEo, solo, solo1, allsz, List.all_cons, List.all_nil, Bool.and_true, beq_self_eq_true, List.length_cons, List.length_nil, Nat.zero_add, srcv, Nat.le_refl, List.take_succ_cons, List.take_zero, and_self, if_true, Nat.reduceAdd, Nat.reduceLT, eq_self, hl, ↓r_any, decide_false]) <;> simp [hl]
    · (simp -dsimp only [↓SD, SP, ↓reduceIte, Nat.reduceEqDiff, ini, frz, rdAo, rd3o, rd2o, rdpo, rd1o, fnv, intv, VOp.dst, getRo, solEo, solo, solo1, allsz, List.all_cons, List.all_nil, Bool.and_true, beq_self_eq_true, List.length_cons, List.length_nil, Nat.zero_add, srcv, Nat.le_refl, List.take_succ_cons, List.take_zero, and_self, if_true, Nat.reduceAdd, Nat.reduceLT, eq_self, fa_o, ↓ldv_f, ↓ldv_n, ↓stv_f, ↓stv_a, fldv, setf, bldv, small, Bool.true_and, List.getElem?_cons_zero, List.getElem?_cons_succ, List.set_cons_zero, List.set_cons_succ, Bool.false_eq_true, if_false, true_and, and_true, reduceCtorEq, false_implies, implies_true, forall_const, ha, hw, ↓fv_c1, ↓r_any, decide_true]) <;> simp [hw]
  · (simp -dsimp only [↓SD, SP, ↓reduceIte, Nat.reduceEqDiff, ini, frz, rdAo, rd3o, rd2o, rdpo, rd1o, fnv, intv, VOp.dst, getRo, solEo, solo, solo1, allsz, List.all_cons, List.all_nil, Bool.and_true, beq_self_eq_true, List.length_cons, List.length_nil, Nat.zero_add, srcv, Nat.le_refl, List.take_succ_cons, List.take_zero, and_self, if_true, Nat.reduceAdd, Nat.reduceLT, eq_self, ha, ↓r_any, decide_false]) <;> simp [ha]
theorem s_eqCommitS (xs ys : List CommitL) (hx : xs.length ≤ 10000000) (h1 : ∀ x ∈ xs, x.parents.length ≤ 10000000) (h2 : ∀ x ∈ xs, x.tree.length ≤ 10000000) (h3 : ∀ x ∈ xs, ∀ f ∈ x.tree, f.text.length ≤ 10000000) : OK Go.Proofs.Tryd.prog 71 [commitsV xs, commitsV ys] (fun _ _ r => r = .bool (decide (xs = ys))) :=
  g_eq (f := 71) (s := 3) (fE := 101) k71 el_commit xs ys hx fun x hx y hy => s_eqCommit x y (h1 x hx) (h2 x hx) (h3 x hx)
theorem s_intactCommit (x : CommitL) (h : okC x) : OK Go.Proofs.Tryd.prog 70 [commitF x, commitF x] (fun _ _ r => r = .bool true) := by
  refine fn_ok k70 rfl ?_
  have e1 := s_intactIntS x.parents h.1
  have e2 := s_intactFileS x.tree h.2.2
  generalize OK Go.Proofs.Tryd.prog = L at *
  intro lo
  have r1 := fun H => rd3_of1 (r := intsF x.parents) (fl := true) (H := H) rfl (by simp [intsF])
  have r2 := fun H => rd3_of1 (r := filesF x.tree) (fl := true) (H := H) rfl (by simp [fullL])
  have z1 : (intsF x.parents).isAgg = false ∧ (intsF x.parents).sz = 1 := ⟨rfl, rfl⟩
  have z2 : (filesF x.tree).isAgg = false ∧ (filesF x.tree).sz = 1 := ⟨rfl, rfl⟩
  simp -dsimp only [↓SD, SP, ↓reduceIte, Nat.reduceEqDiff, ini, frz, rdAo, rd3o, rd2o, rdpo, rd1o, fnv, intv, VOp.dst, getRo, solEo, solo, solo1, allsz, List.all_cons, List.all_nil, Bool.and_true, beq_self_eq_true, List.length_cons, List.length_nil, Nat.zero_add, srcv, Nat.le_refl, List.take_succ_cons, List.take_zero, and_self, if_true, Nat.reduceAdd, Nat.reduceLT, eq_self, c70, commitF]
  refine bal_mk fun b hb => ?_
  simp -dsimp only [↓SD, SP, ↓reduceIte, Nat.reduceEqDiff, ini, frz, rdAo, rd3o, rd2o, rdpo, rd1o, fnv, intv, VOp.dst, getRo, solEo, solo, solo1, allsz, List.all_cons, List.all_nil, Bool.and_true, beq_self_eq_true, List.length_cons, List.length_nil, Nat.zero_add, srcv, Nat.le_refl, List.take_succ_cons, List.take_zero, and_self, if_true, Nat.reduceAdd, Nat.reduceLT, eq_self]
  refine bal_mk fun b1 hb1 => ?_
  simp -dsimp only [↓SD, SP, ↓reduceIte, Nat.reduceEqDiff, ini, frz, rdAo, rd3o, rd2o, rdpo, rd1o, fnv, intv, VOp.dst, getRo, solEo, solo, solo1, allsz, List.all_cons, List.all_nil, Bool.and_true, beq_self_eq_true, List.length_cons, List.length_nil, Nat.zero_add, srcv, Nat.le_refl, List.take_succ_cons, List.take_zero, and_self, if_true, Nat.reduceAdd, Nat.reduceLT, eq_self, fldAv, ↓ldv_f, ↓ldv_n, ↓stv_f, ↓stv_a, fldv, setf, bldv, small, Bool.true_and, List.getElem?_cons_zero, List.getElem?_cons_succ, List.set_cons_zero, List.set_cons_succ, Bool.false_eq_true, if_false, true_and, and_true, reduceCtorEq, false_implies, implies_true, forall_const, ↓r1, z1, z2, ↓r_any]
  refine call_rule e1 ?_
  rintro lo1 hi1 r - - rfl
  simp -dsimp only [↓SD, SP, ↓reduceIte, Nat.reduceEqDiff, ini, frz, rdAo, rd3o, rd2o, rdpo, rd1o, fnv, intv, VOp.dst, getRo, solEo, solo, solo1, allsz, List.all_cons, List.all_nil, Bool.and_true, beq_self_eq_true, List.length_cons, List.length_nil, Nat.zero_add, srcv, Nat.le_refl, List.take_succ_cons, List.take_zero, and_self, if_true, Nat.reduceAdd, Nat.reduceLT, eq_self, fldAv, ↓ldv_f, ↓ldv_n, ↓stv_f, ↓stv_a, fldv, setf, bldv, small, Bool.true_and, List.getElem?_cons_zero, List.getElem?_cons_succ, List.set_cons_zero, List.set_cons_succ, Bool.false_eq_true, if_false, true_and, and_true, reduceCtorEq, false_implies, implies_true, forall_const, ↓r1, ↓r2, z1, z2, ↓r_any, m_beq, decide_true, Bool.not_true]
  refine call_rule e2 ?_
  rintro lo2 hi2 r - - rfl
  simp -dsimp only [↓SD, SP, ↓reduceIte, Nat.reduceEqDiff, ini, frz, rdAo, rd3o, rd2o, rdpo, rd1o, fnv, intv, VOp.dst, getRo, solEo, solo, solo1, allsz, List.all_cons, List.all_nil, Bool.and_true, beq_self_eq_true, List.length_cons, List.length_nil, Nat.zero_add, srcv, Nat.le_refl, List.take_succ_cons, List.take_zero, and_self, if_true, Nat.reduceAdd, Nat.reduceLT, eq_self, ↓r_any]
theorem s_intactCommitS (xs : List CommitL) (ho : okCs xs) : OK Go.Proofs.Tryd.prog 35 [commitsF xs, commitsF xs] (fun _ _ r => r = .bool true) :=
  g_in (f := 35) (s := 3) (fI := 70) (fE := 71) (fR := 47) k35 (by decide) el_commit (fun x => ⟨_, rfl, rfl⟩) rd_commitF xs ho.1 (fun k hk => s54 k hk) (fun x hx => s_intactCommit x (ho.2 x hx))
    (fun n hn => (s_eqCommitS _ _ (by simpa using hn) (fun x hx => by rw [List.eq_of_mem_replicate hx]; decide) (fun x hx => by rw [List.eq_of_mem_replicate hx]; decide) (fun x hx => by rw [List.eq_of_mem_replicate hx]; decide)).weak fun _ _ r hr => by simpa using hr)
end Go.AVM

/- Repositories: what the law's helpers give, and what RepoOk gives, the program's. -/
set_option linter.unusedSimpArgs false
set_option linter.unusedVariables false
namespace Go.AVM
def repoV (r : RepoL) : AV := .agg [commitsV r.commits, headsV r.heads]
def repoF (r : RepoL) : AV := .agg [commitsF r.commits, headsF r.heads]
def wfR (r : RepoL) : Prop := wfCs r.commits ∧ wfHds r.heads
def okR (r : RepoL) : Prop := okCs r.commits ∧ okHds r.heads
theorem rd_repo (H : Hp) (r : RepoL) : rd3o false H (repoV r) = some (repoV r, []) := by
  have h1 : (r.commits.map commitV).take r.commits.length = r.commits.map commitV := List.take_of_length_le (by simp)
  have h2 : (r.heads.map headV).take r.heads.length = r.heads.map headV := List.take_of_length_le (by simp)
  simp [repoV, lv, rd3o, rd2o, rdpo, rdso, rd1o, h1, h2]
theorem sz_repo (r : RepoL) : (repoV r).sz = 2 := Eq.trans rfl rfl
theorem fv_r0 (r : RepoL) : fldv 0 (repoV r) = some (commitsV r.commits) := by simp [fldv, repoV, lv, AV.isAgg]
theorem fv_r1 (r : RepoL) : fldv 1 (repoV r) = some (headsV r.heads) := by simp [fldv, repoV, lv, AV.isAgg]
theorem repo_pl (r : RepoL) : Pl false (repoV r) := .agg _ fun g hg => by
  simp at hg
  rcases hg with rfl | rfl
  · exact pf_lv _ _
  · exact pf_lv _ _
theorem repo_plF (r : RepoL) : Pl true (repoF r) := .agg _ fun g hg => by
  simp at hg
  rcases hg with rfl | rfl
  · exact pf_full _ _ _ _
  · exact pf_full _ _ _ _
theorem repo_sz (x : RepoL) (k : Nat) (hk : k ≤ 1000000) (hw : wfR x) : OK Go.Proofs.Tryd.prog 8 [repoV x, .int .i64 k] (fun _ _ r => SzR (okR x) k r) := by
  refine fn_ok k8 rfl ?_
  have h1 := s_szCommitS x.commits k hk hw.1
  have h2 := fun k hk => s_szHeadS x.heads k hk hw.2
  generalize OK Go.Proofs.Tryd.prog = L at *
  intro lo
  simp -dsimp only [↓SD, SP, ↓reduceIte, Nat.reduceEqDiff, ini, frz, rdAo, rd3o, rd2o, rdpo, rd1o, fnv, intv, VOp.dst, getRo, solEo, solo, solo1, allsz, List.all_cons, List.all_nil, Bool.and_true, beq_self_eq_true, List.length_cons, List.length_nil, Nat.zero_add, srcv, Nat.le_refl, List.take_succ_cons, List.take_zero, and_self, if_true, Nat.reduceAdd, Nat.reduceLT, eq_self, c8, sz_repo]
  refine bal_mk fun b hb => ?_
  simp -dsimp only [↓SD, SP, ↓reduceIte, Nat.reduceEqDiff, ini, frz, rdAo, rd3o, rd2o, rdpo, rd1o, fnv, intv, VOp.dst, getRo, solEo, solo, solo1, allsz, List.all_cons, List.all_nil, Bool.and_true, beq_self_eq_true, List.length_cons, List.length_nil, Nat.zero_add, srcv, Nat.le_refl, List.take_succ_cons, List.take_zero, and_self, if_true, Nat.reduceAdd, Nat.reduceLT, eq_self, fa_o, ↓ldv_f, ↓ldv_n, ↓stv_f, ↓stv_a, fldv, setf, bldv, small, Bool.true_and, List.getElem?_cons_zero, List.getElem?_cons_succ, List.set_cons_zero, List.set_cons_succ, Bool.false_eq_true, if_false, true_and, and_true, reduceCtorEq, false_implies, implies_true, forall_const, ↓fv_r0, ↓rd_lv, ↓r_any]
  refine call_rule h1 ?_
  rintro lo1 hi1 r g1 g2 ⟨i, rfl, hi⟩
  by_cases hneg : i < 0
  · simp -dsimp only [↓SD, SP, ↓reduceIte, Nat.reduceEqDiff, ini, frz, rdAo, rd3o, rd2o, rdpo, rd1o, fnv, intv, VOp.dst, getRo, solEo, solo, solo1, allsz, List.all_cons, List.all_nil, Bool.and_true, beq_self_eq_true, List.length_cons, List.length_nil, Nat.zero_add, srcv, Nat.le_refl, List.take_succ_cons, List.take_zero, and_self, if_true, Nat.reduceAdd, Nat.reduceLT, eq_self, fa_o, ↓ldv_f, ↓ldv_n, ↓stv_f, ↓stv_a, fldv, setf, bldv, small, Bool.true_and, List.getElem?_cons_zero, List.getElem?_cons_succ, List.set_cons_zero, List.set_cons_succ, Bool.false_eq_true, if_false, true_and, and_true, reduceCtorEq, false_implies, implies_true, forall_const, hneg, ↓r_any]
    exact ⟨_, rfl, by omega⟩
  obtain ⟨ho, k1, rfl, hk1⟩ := hi (by omega)
  simp -dsimp only [↓SD, SP, ↓reduceIte, Nat.reduceEqDiff, ini, frz, rdAo, rd3o, rd2o, rdpo, rd1o, fnv, intv, VOp.dst, getRo, solEo, solo, solo1, allsz, List.all_cons, List.all_nil, Bool.and_true, beq_self_eq_true, List.length_cons, List.length_nil, Nat.zero_add, srcv, Nat.le_refl, List.take_succ_cons, List.take_zero, and_self, if_true, Nat.reduceAdd, Nat.reduceLT, eq_self, fa_o, ↓ldv_f, ↓ldv_n, ↓stv_f, ↓stv_a, fldv, setf, bldv, small, Bool.true_and, List.getElem?_cons_zero, List.getElem?_cons_succ, List.set_cons_zero, List.set_cons_succ, Bool.false_eq_true, if_false, true_and, and_true, reduceCtorEq, false_implies, implies_true, forall_const, hneg, ↓fv_r1, ↓rd_lv, ↓r_any]
  refine call_rule (h2 k1 (by omega)) ?_
  rintro lo2 hi2 r g3 g4 ⟨i, rfl, hi⟩
  by_cases hneg2 : i < 0
  · simp -dsimp only [↓SD, SP, ↓reduceIte, Nat.reduceEqDiff, ini, frz, rdAo, rd3o, rd2o, rdpo, rd1o, fnv, intv, VOp.dst, getRo, solEo, solo, solo1, allsz, List.all_cons, List.all_nil, Bool.and_true, beq_self_eq_true, List.length_cons, List.length_nil, Nat.zero_add, srcv, Nat.le_refl, List.take_succ_cons, List.take_zero, and_self, if_true, Nat.reduceAdd, Nat.reduceLT, eq_self, hneg2, ↓r_any]
    exact ⟨_, rfl, by omega⟩
  obtain ⟨ho2, k2, rfl, hk2⟩ := hi (by omega)
  simp -dsimp only [↓SD, SP, ↓reduceIte, Nat.reduceEqDiff, ini, frz, rdAo, rd3o, rd2o, rdpo, rd1o, fnv, intv, VOp.dst, getRo, solEo, solo, solo1, allsz, List.all_cons, List.all_nil, Bool.and_true, beq_self_eq_true, List.length_cons, List.length_nil, Nat.zero_add, srcv, Nat.le_refl, List.take_succ_cons, List.take_zero, and_self, if_true, Nat.reduceAdd, Nat.reduceLT, eq_self, hneg2, ↓r_any]
  exact ⟨_, rfl, fun _ => ⟨⟨ho, ho2⟩, k2, rfl, by omega⟩⟩
theorem wk_l2' {a b a' b' : AV} (h1 : Wk a a') (h2 : Wk b b') : Wk (.agg [a, b]) (.agg [a', b']) := wk_l2 h1 h2
theorem repo_to (x : RepoL) (bare : Bool) (ho : okR x) : OK Go.Proofs.Tryd.prog 10 [repoV x, .bool bare] (fun lo hi r => ToR (repoV x) (repoF x) bare lo hi r) := by
  refine fn_ok k10 rfl ?_
  have h1 := s_toCommitS x.commits bare ho.1
  have h3 := s_toHeadS x.heads bare ho.2
  generalize OK Go.Proofs.Tryd.prog = L at *
  intro lo
  simp -dsimp only [↓SD, SP, ↓reduceIte, Nat.reduceEqDiff, ini, frz, rdAo, rd3o, rd2o, rdpo, rd1o, fnv, intv, VOp.dst, getRo, solEo, solo, solo1, allsz, List.all_cons, List.all_nil, Bool.and_true, beq_self_eq_true, List.length_cons, List.length_nil, Nat.zero_add, srcv, Nat.le_refl, List.take_succ_cons, List.take_zero, and_self, if_true, Nat.reduceAdd, Nat.reduceLT, eq_self, c10, sz_repo]
  refine bal_mk fun b hb => ?_
  simp -dsimp only [↓SD, SP, ↓reduceIte, Nat.reduceEqDiff, ini, frz, rdAo, rd3o, rd2o, rdpo, rd1o, fnv, intv, VOp.dst, getRo, solEo, solo, solo1, allsz, List.all_cons, List.all_nil, Bool.and_true, beq_self_eq_true, List.length_cons, List.length_nil, Nat.zero_add, srcv, Nat.le_refl, List.take_succ_cons, List.take_zero, and_self, if_true, Nat.reduceAdd, Nat.reduceLT, eq_self]
  refine bal_mk fun b1 hb1 => ?_
  simp -dsimp only [↓SD, SP, ↓reduceIte, Nat.reduceEqDiff, ini, frz, rdAo, rd3o, rd2o, rdpo, rd1o, fnv, intv, VOp.dst, getRo, solEo, solo, solo1, allsz, List.all_cons, List.all_nil, Bool.and_true, beq_self_eq_true, List.length_cons, List.length_nil, Nat.zero_add, srcv, Nat.le_refl, List.take_succ_cons, List.take_zero, and_self, if_true, Nat.reduceAdd, Nat.reduceLT, eq_self]
  refine bal_mk fun b2 hb2 => ?_
  simp -dsimp only [↓SD, SP, ↓reduceIte, Nat.reduceEqDiff, ini, frz, rdAo, rd3o, rd2o, rdpo, rd1o, fnv, intv, VOp.dst, getRo, solEo, solo, solo1, allsz, List.all_cons, List.all_nil, Bool.and_true, beq_self_eq_true, List.length_cons, List.length_nil, Nat.zero_add, srcv, Nat.le_refl, List.take_succ_cons, List.take_zero, and_self, if_true, Nat.reduceAdd, Nat.reduceLT, eq_self, fa_o, ↓ldv_f, ↓ldv_n, ↓stv_f, ↓stv_a, fldv, setf, bldv, small, Bool.true_and, List.getElem?_cons_zero, List.getElem?_cons_succ, List.set_cons_zero, List.set_cons_succ, Bool.false_eq_true, if_false, true_and, and_true, reduceCtorEq, false_implies, implies_true, forall_const, ↓fv_r0, ↓rd_lv, ↓r_any]
  refine call_rule h1 ?_
  rintro lo1 hi1 l1 g1 g2 q1
  obtain ⟨a1, a1'⟩ := IsL.fld q1
  have e1 := fun H => sol1_wk (fl := false) (pf_lv commitV x.commits) q1.wk H
  simp -dsimp only [↓SD, SP, ↓reduceIte, Nat.reduceEqDiff, ini, frz, rdAo, rd3o, rd2o, rdpo, rd1o, fnv, intv, VOp.dst, getRo, solEo, solo, solo1, allsz, List.all_cons, List.all_nil, Bool.and_true, beq_self_eq_true, List.length_cons, List.length_nil, Nat.zero_add, srcv, Nat.le_refl, List.take_succ_cons, List.take_zero, and_self, if_true, Nat.reduceAdd, Nat.reduceLT, eq_self, fa_o, ↓ldv_f, ↓ldv_n, ↓stv_f, ↓stv_a, fldv, setf, bldv, small, Bool.true_and, List.getElem?_cons_zero, List.getElem?_cons_succ, List.set_cons_zero, List.set_cons_succ, Bool.false_eq_true, if_false, true_and, and_true, reduceCtorEq, false_implies, implies_true, forall_const, ↓r_any, a1, a1', ↓e1, ↓fv_r1, ↓rd_lv]
  refine call_rule h3 ?_
  rintro lo3 hi3 l3 g3 g4 q3
  obtain ⟨a3, a3'⟩ := IsL.fld q3
  have e3 := fun H => sol1_wk (fl := false) (pf_lv headV x.heads) q3.wk H
  simp -dsimp only [↓SD, SP, ↓reduceIte, Nat.reduceEqDiff, ini, frz, rdAo, rd3o, rd2o, rdpo, rd1o, fnv, intv, VOp.dst, getRo, solEo, solo, solo1, allsz, List.all_cons, List.all_nil, Bool.and_true, beq_self_eq_true, List.length_cons, List.length_nil, Nat.zero_add, srcv, Nat.le_refl, List.take_succ_cons, List.take_zero, and_self, if_true, Nat.reduceAdd, Nat.reduceLT, eq_self, fa_o, ↓ldv_f, ↓ldv_n, ↓stv_f, ↓stv_a, fldv, setf, bldv, small, Bool.true_and, List.getElem?_cons_zero, List.getElem?_cons_succ, List.set_cons_zero, List.set_cons_succ, Bool.false_eq_true, if_false, true_and, and_true, reduceCtorEq, false_implies, implies_true, forall_const, ↓r_any, a1, a1', a3, a3', ↓e1, ↓e3, solso]
  refine ⟨wk_l2 q1.wk q3.wk, fun hb => ?_, ?_⟩
  · subst hb
    exact wk_l2 q1.wkF q3.wkF
  · simp only [tags, tagsL, List.append_nil]
    exact ((IsL.tin q1).mono (show lo ≤ lo1 by omega) (Nat.le_refl _)).app (IsL.tin q3) g3 (by omega) (by omega)
theorem repo_in (x : RepoL) (ho : okR x) : OK Go.Proofs.Tryd.prog 12 [repoF x, repoF x] (fun _ _ r => r = .bool true) := by
  refine fn_ok k12 rfl ?_
  have e1 := s_intactCommitS x.commits ho.1
  have e2 := s_intactHeadS x.heads ho.2.1
  generalize OK Go.Proofs.Tryd.prog = L at *
  intro lo
  have r1 := fun H => rd3_of1 (r := commitsF x.commits) (fl := true) (H := H) rfl (by simp [fullL])
  have r2 := fun H => rd3_of1 (r := headsF x.heads) (fl := true) (H := H) rfl (by simp [fullL])
  have z1 : (commitsF x.commits).isAgg = false ∧ (commitsF x.commits).sz = 1 := ⟨rfl, rfl⟩
  have z2 : (headsF x.heads).isAgg = false ∧ (headsF x.heads).sz = 1 := ⟨rfl, rfl⟩
  simp -dsimp only [↓SD, SP, ↓reduceIte, Nat.reduceEqDiff, ini, frz, rdAo, rd3o, rd2o, rdpo, rd1o, fnv, intv, VOp.dst, getRo, solEo, solo, solo1, allsz, List.all_cons, List.all_nil, Bool.and_true, beq_self_eq_true, List.length_cons, List.length_nil, Nat.zero_add, srcv, Nat.le_refl, List.take_succ_cons, List.take_zero, and_self, if_true, Nat.reduceAdd, Nat.reduceLT, eq_self, c12, repoF]
  refine bal_mk fun b hb => ?_
  simp -dsimp only [↓SD, SP, ↓reduceIte, Nat.reduceEqDiff, ini, frz, rdAo, rd3o, rd2o, rdpo, rd1o, fnv, intv, VOp.dst, getRo, solEo, solo, solo1, allsz, List.all_cons, List.all_nil, Bool.and_true, beq_self_eq_true, List.length_cons, List.length_nil, Nat.zero_add, srcv, Nat.le_refl, List.take_succ_cons, List.take_zero, and_self, if_true, Nat.reduceAdd, Nat.reduceLT, eq_self]
  refine bal_mk fun b1 hb1 => ?_
  simp -dsimp only [↓SD, SP, ↓reduceIte, Nat.reduceEqDiff, ini, frz, rdAo, rd3o, rd2o, rdpo, rd1o, fnv, intv, VOp.dst, getRo, solEo, solo, solo1, allsz, List.all_cons, List.all_nil, Bool.and_true, beq_self_eq_true, List.length_cons, List.length_nil, Nat.zero_add, srcv, Nat.le_refl, List.take_succ_cons, List.take_zero, and_self, if_true, Nat.reduceAdd, Nat.reduceLT, eq_self, fldAv, ↓ldv_f, ↓ldv_n, ↓stv_f, ↓stv_a, fldv, setf, bldv, small, Bool.true_and, List.getElem?_cons_zero, List.getElem?_cons_succ, List.set_cons_zero, List.set_cons_succ, Bool.false_eq_true, if_false, true_and, and_true, reduceCtorEq, false_implies, implies_true, forall_const, ↓r1, z1, z2, ↓r_any]
  refine call_rule e1 ?_
  rintro lo1 hi1 r - - rfl
  simp -dsimp only [↓SD, SP, ↓reduceIte, Nat.reduceEqDiff, ini, frz, rdAo, rd3o, rd2o, rdpo, rd1o, fnv, intv, VOp.dst, getRo, solEo, solo, solo1, allsz, List.all_cons, List.all_nil, Bool.and_true, beq_self_eq_true, List.length_cons, List.length_nil, Nat.zero_add, srcv, Nat.le_refl, List.take_succ_cons, List.take_zero, and_self, if_true, Nat.reduceAdd, Nat.reduceLT, eq_self, fldAv, ↓ldv_f, ↓ldv_n, ↓stv_f, ↓stv_a, fldv, setf, bldv, small, Bool.true_and, List.getElem?_cons_zero, List.getElem?_cons_succ, List.set_cons_zero, List.set_cons_succ, Bool.false_eq_true, if_false, true_and, and_true, reduceCtorEq, false_implies, implies_true, forall_const, ↓r1, ↓r2, z1, z2, ↓r_any, Bool.not_true]
  refine call_rule e2 ?_
  rintro lo2 hi2 r - - rfl
  simp -dsimp only [↓SD, SP, ↓reduceIte, Nat.reduceEqDiff, ini, frz, rdAo, rd3o, rd2o, rdpo, rd1o, fnv, intv, VOp.dst, getRo, solEo, solo, solo1, allsz, List.all_cons, List.all_nil, Bool.and_true, beq_self_eq_true, List.length_cons, List.length_nil, Nat.zero_add, srcv, Nat.le_refl, List.take_succ_cons, List.take_zero, and_self, if_true, Nat.reduceAdd, Nat.reduceLT, eq_self, ↓r_any]
/-! ### RepoOk, the program's -/
theorem sl_intsTo (H : Hp) (t : List Int) (i : Nat) (h : i ≤ t.length) : slcv H 1 (ints t) none (some (.int .i64 i)) = some (.lsl none i (t.map iz)) := by
  simp [slcv, ints]
  omega
theorem rd_slI (H : Hp) (n : Nat) (ys : List Int) (h : n ≤ ys.length) : rd3o false H (.lsl none n (ys.map iz)) = some (ints (ys.take n), []) := by
  simp [rd3o, rd2o, rdpo, rd1o, ints, h, List.map_take, Nat.min_eq_left h]
theorem s_indexI (xs : List Int) (p : Int) (h : xs.length ≤ 1000000) : OK Go.Proofs.Tryd.prog 93 [ints xs, .int .i64 p] (fun _ _ r => ∃ k : Int, r = .int .i64 k ∧ decide (0 ≤ k) = xs.any fun q => decide (p = q)) := by
  refine fn_ok k93 rfl ?_
  generalize OK Go.Proofs.Tryd.prog = L
  intro lo
  simp -dsimp only [↓SD, SP, ↓reduceIte, Nat.reduceEqDiff, ini, frz, rdAo, rd3o, rd2o, rdpo, rd1o, fnv, intv, VOp.dst, getRo, solEo, solo, solo1, allsz, List.all_cons, List.all_nil, Bool.and_true, beq_self_eq_true, List.length_cons, List.length_nil, Nat.zero_add, srcv, Nat.le_refl, List.take_succ_cons, List.take_zero, and_self, if_true, Nat.reduceAdd, Nat.reduceLT, eq_self, c93, l_ints]
  refine loop_rule (fun m E H n => ∃ i : Nat, m + i = xs.length ∧ E 0 = ints xs ∧ E 1 = .int .i64 p ∧ E 7 = .int .i64 xs.length ∧ E 8 = .int .i64 i ∧ ((xs.take i).any fun q => decide (p = q)) = false)
    (fun e E H n => (e = .exit 0 ∧ (xs.any fun q => decide (p = q)) = false) ∨ (e = .ret ∧ ∃ k : Int, E 4 = .int .i64 k ∧ decide (0 ≤ k) = xs.any fun q => decide (p = q))) xs.length ⟨0, rfl, rfl, rfl, rfl, rfl, rfl⟩ ?_ ?_
  · rintro e E H n (⟨rfl, h0⟩ | ⟨rfl, k, h2, h3⟩)
    · simp -dsimp only [↓SD, SP, ↓reduceIte, Nat.reduceEqDiff, ini, frz, rdAo, rd3o, rd2o, rdpo, rd1o, fnv, intv, VOp.dst, getRo, solEo, solo, solo1, allsz, List.all_cons, List.all_nil, Bool.and_true, beq_self_eq_true, List.length_cons, List.length_nil, Nat.zero_add, srcv, Nat.le_refl, List.take_succ_cons, List.take_zero, and_self, if_true, Nat.reduceAdd, Nat.reduceLT, eq_self]
      exact ⟨_, rfl, by simp [h0]⟩
    · simp -dsimp only [↓SD, SP, ↓reduceIte, Nat.reduceEqDiff, ini, frz, rdAo, rd3o, rd2o, rdpo, rd1o, fnv, intv, VOp.dst, getRo, solEo, solo, solo1, allsz, List.all_cons, List.all_nil, Bool.and_true, beq_self_eq_true, List.length_cons, List.length_nil, Nat.zero_add, srcv, Nat.le_refl, List.take_succ_cons, List.take_zero, and_self, if_true, Nat.reduceAdd, Nat.reduceLT, eq_self, h2]
      exact ⟨_, rfl, h3⟩
  · rintro m E H n Q K ⟨i, hm, h0, h1, h7, h8, hp⟩ hQ hK
    by_cases hi : i < xs.length
    · have hany : ((xs.take (i + 1)).any fun q => decide (p = q)) = decide (p = xs[i]) := by
        rw [List.take_succ_eq_append_getElem hi, List.any_append, hp]
        simp
      by_cases hb : p = xs[i]
      · simp -dsimp only [↓SD, SP, ↓reduceIte, Nat.reduceEqDiff, ini, frz, rdAo, rd3o, rd2o, rdpo, rd1o, fnv, intv, VOp.dst, getRo, solEo, solo, solo1, allsz, List.all_cons, List.all_nil, Bool.and_true, beq_self_eq_true, List.length_cons, List.length_nil, Nat.zero_add, srcv, Nat.le_refl, List.take_succ_cons, List.take_zero, and_self, if_true, Nat.reduceAdd, Nat.reduceLT, eq_self, h0, h1, h7, h8, Int.ofNat_lt, hi, x_ints _ _ hi, d_iz, ← hb]
        refine hQ _ _ _ _ (.inr ⟨rfl, (i : Int), by first | (simp -dsimp only [↓SD, SP, ↓reduceIte, Nat.reduceEqDiff, ini, frz, rdAo, rd3o, rd2o, rdpo, rd1o, fnv, intv, VOp.dst, getRo, solEo, solo, solo1, allsz, List.all_cons, List.all_nil, Bool.and_true, beq_self_eq_true, List.length_cons, List.length_nil, Nat.zero_add, srcv, Nat.le_refl, List.take_succ_cons, List.take_zero, and_self, if_true, Nat.reduceAdd, Nat.reduceLT, eq_self, h8]; done) | (simp -dsimp only [↓SD, SP, ↓reduceIte, Nat.reduceEqDiff, ini, frz, rdAo, rd3o, rd2o, rdpo, rd1o, fnv, intv, VOp.dst, getRo, solEo, solo, solo1, allsz, List.all_cons, List.all_nil, Bool.and_true, beq_self_eq_true, List.length_cons, List.length_nil, Nat.zero_add, srcv, Nat.le_refl, List.take_succ_cons, List.take_zero, and_self, if_true, Nat.reduceAdd, Nat.reduceLT, eq_self, h8]; rfl) | rfl, ?_⟩)
        rw [show (xs.any fun q => decide (p = q)) = true from List.any_eq_true.2 ⟨xs[i], List.getElem_mem hi, by simp [hb]⟩]
        simp
      · simp -dsimp only [↓SD, SP, ↓reduceIte, Nat.reduceEqDiff, ini, frz, rdAo, rd3o, rd2o, rdpo, rd1o, fnv, intv, VOp.dst, getRo, solEo, solo, solo1, allsz, List.all_cons, List.all_nil, Bool.and_true, beq_self_eq_true, List.length_cons, List.length_nil, Nat.zero_add, srcv, Nat.le_refl, List.take_succ_cons, List.take_zero, and_self, if_true, Nat.reduceAdd, Nat.reduceLT, eq_self, h0, h1, h7, h8, Int.ofNat_lt, hi, x_ints _ _ hi, d_iz, hb, wrap64 ((i : Int) + 1) (by omega)]
        refine hK (m - 1) _ _ _ (by omega) ⟨i + 1, by omega, by first | (simp -dsimp only [↓SD, SP, ↓reduceIte, Nat.reduceEqDiff, ini, frz, rdAo, rd3o, rd2o, rdpo, rd1o, fnv, intv, VOp.dst, getRo, solEo, solo, solo1, allsz, List.all_cons, List.all_nil, Bool.and_true, beq_self_eq_true, List.length_cons, List.length_nil, Nat.zero_add, srcv, Nat.le_refl, List.take_succ_cons, List.take_zero, and_self, if_true, Nat.reduceAdd, Nat.reduceLT, eq_self, h0]; done) | (simp -dsimp only [↓SD, SP, ↓reduceIte, Nat.reduceEqDiff, ini, frz, rdAo, rd3o, rd2o, rdpo, rd1o, fnv, intv, VOp.dst, getRo, solEo, solo, solo1, allsz, List.all_cons, List.all_nil, Bool.and_true, beq_self_eq_true, List.length_cons, List.length_nil, Nat.zero_add, srcv, Nat.le_refl, List.take_succ_cons, List.take_zero, and_self, if_true, Nat.reduceAdd, Nat.reduceLT, eq_self, h0]; rfl) | rfl, by first | (simp -dsimp only [↓SD, SP, ↓reduceIte, Nat.reduceEqDiff, ini, frz, rdAo, rd3o, rd2o, rdpo, rd1o, fnv, intv, VOp.dst, getRo, solEo, solo, solo1, allsz, List.all_cons, List.all_nil, Bool.and_true, beq_self_eq_true, List.length_cons, List.length_nil, Nat.zero_add, srcv, Nat.le_refl, List.take_succ_cons, List.take_zero, and_self, if_true, Nat.reduceAdd, Nat.reduceLT, eq_self, h1]; done) | (simp -dsimp only [↓SD, SP, ↓reduceIte, Nat.reduceEqDiff, ini, frz, rdAo, rd3o, rd2o, rdpo, rd1o, fnv, intv, VOp.dst, getRo, solEo, solo, solo1, allsz, List.all_cons, List.all_nil, Bool.and_true, beq_self_eq_true, List.length_cons, List.length_nil, Nat.zero_add, srcv, Nat.le_refl, List.take_succ_cons, List.take_zero, and_self, if_true, Nat.reduceAdd, Nat.reduceLT, eq_self, h1]; rfl) | rfl, by first | (simp -dsimp only [↓SD, SP, ↓reduceIte, Nat.reduceEqDiff, ini, frz, rdAo, rd3o, rd2o, rdpo, rd1o, fnv, intv, VOp.dst, getRo, solEo, solo, solo1, allsz, List.all_cons, List.all_nil, Bool.and_true, beq_self_eq_true, List.length_cons, List.length_nil, Nat.zero_add, srcv, Nat.le_refl, List.take_succ_cons, List.take_zero, and_self, if_true, Nat.reduceAdd, Nat.reduceLT, eq_self, h7]; done) | (simp -dsimp only [↓SD, SP, ↓reduceIte, Nat.reduceEqDiff, ini, frz, rdAo, rd3o, rd2o, rdpo, rd1o, fnv, intv, VOp.dst, getRo, solEo, solo, solo1, allsz, List.all_cons, List.all_nil, Bool.and_true, beq_self_eq_true, List.length_cons, List.length_nil, Nat.zero_add, srcv, Nat.le_refl, List.take_succ_cons, List.take_zero, and_self, if_true, Nat.reduceAdd, Nat.reduceLT, eq_self, h7]; rfl) | rfl, by first | (simp -dsimp only [↓SD, SP, ↓reduceIte, Nat.reduceEqDiff, ini, frz, rdAo, rd3o, rd2o, rdpo, rd1o, fnv, intv, VOp.dst, getRo, solEo, solo, solo1, allsz, List.all_cons, List.all_nil, Bool.and_true, beq_self_eq_true, List.length_cons, List.length_nil, Nat.zero_add, srcv, Nat.le_refl, List.take_succ_cons, List.take_zero, and_self, if_true, Nat.reduceAdd, Nat.reduceLT, eq_self, Int.natCast_add, Int.natCast_one]; done) | (simp -dsimp only [↓SD, SP, ↓reduceIte, Nat.reduceEqDiff, ini, frz, rdAo, rd3o, rd2o, rdpo, rd1o, fnv, intv, VOp.dst, getRo, solEo, solo, solo1, allsz, List.all_cons, List.all_nil, Bool.and_true, beq_self_eq_true, List.length_cons, List.length_nil, Nat.zero_add, srcv, Nat.le_refl, List.take_succ_cons, List.take_zero, and_self, if_true, Nat.reduceAdd, Nat.reduceLT, eq_self, Int.natCast_add, Int.natCast_one]; rfl) | rfl, by rw [hany]; simp [hb]⟩
    · simp -dsimp only [↓SD, SP, ↓reduceIte, Nat.reduceEqDiff, ini, frz, rdAo, rd3o, rd2o, rdpo, rd1o, fnv, intv, VOp.dst, getRo, solEo, solo, solo1, allsz, List.all_cons, List.all_nil, Bool.and_true, beq_self_eq_true, List.length_cons, List.length_nil, Nat.zero_add, srcv, Nat.le_refl, List.take_succ_cons, List.take_zero, and_self, if_true, Nat.reduceAdd, Nat.reduceLT, eq_self, h0, h1, h7, h8, Int.ofNat_lt, hi]
      refine hQ _ _ _ _ (.inl ⟨rfl, ?_⟩)
      rw [List.take_of_length_le (by omega)] at hp
      exact hp
theorem s_containsI (xs : List Int) (p : Int) (h : xs.length ≤ 1000000) : OK Go.Proofs.Tryd.prog 67 [ints xs, .int .i64 p] (fun _ _ r => r = .bool (xs.any fun q => decide (p = q))) := by
  refine fn_ok k67 rfl ?_
  have hs := s_indexI xs p h
  generalize OK Go.Proofs.Tryd.prog = L at hs ⊢
  intro lo
  simp -dsimp only [↓SD, SP, ↓reduceIte, Nat.reduceEqDiff, ini, frz, rdAo, rd3o, rd2o, rdpo, rd1o, fnv, intv, VOp.dst, getRo, solEo, solo, solo1, allsz, List.all_cons, List.all_nil, Bool.and_true, beq_self_eq_true, List.length_cons, List.length_nil, Nat.zero_add, srcv, Nat.le_refl, List.take_succ_cons, List.take_zero, and_self, if_true, Nat.reduceAdd, Nat.reduceLT, eq_self, c67, ↓rd_ints false, ↓r_any]
  refine call_rule hs ?_
  rintro lo' hi' r g1 g2 ⟨k, rfl, hk⟩
  simp -dsimp only [↓SD, SP, ↓reduceIte, Nat.reduceEqDiff, ini, frz, rdAo, rd3o, rd2o, rdpo, rd1o, fnv, intv, VOp.dst, getRo, solEo, solo, solo1, allsz, List.all_cons, List.all_nil, Bool.and_true, beq_self_eq_true, List.length_cons, List.length_nil, Nat.zero_add, srcv, Nat.le_refl, List.take_succ_cons, List.take_zero, and_self, if_true, Nat.reduceAdd, Nat.reduceLT, eq_self, hk]
theorem s_commitOk (c : CommitL) (i : Nat) (hc : okC c) (hi : i ≤ 1000000) : OK Go.Proofs.Tryd.prog 33 [commitV c, .int .i64 i] (fun _ _ r => r = .bool (commitOk i c)) := by
  refine fn_ok k33 rfl ?_
  have hw := s_within
  have hct := fun k (hk : k ≤ c.parents.length) p => s_containsI (c.parents.take k) p (by simp; have := hc.1; omega)
  have hn := s_nameOk c.who hc.2.1
  have ht := s_implTreeOk c.tree hc.2.2
  generalize OK Go.Proofs.Tryd.prog = L at *
  intro lo
  have hlen := hc.1
  simp -dsimp only [↓SD, SP, ↓reduceIte, Nat.reduceEqDiff, ini, frz, rdAo, rd3o, rd2o, rdpo, rd1o, fnv, intv, VOp.dst, getRo, solEo, solo, solo1, allsz, List.all_cons, List.all_nil, Bool.and_true, beq_self_eq_true, List.length_cons, List.length_nil, Nat.zero_add, srcv, Nat.le_refl, List.take_succ_cons, List.take_zero, and_self, if_true, Nat.reduceAdd, Nat.reduceLT, eq_self, c33, sz_commit]
  refine bal_mk fun b hb => ?_
  simp -dsimp only [↓SD, SP, ↓reduceIte, Nat.reduceEqDiff, ini, frz, rdAo, rd3o, rd2o, rdpo, rd1o, fnv, intv, VOp.dst, getRo, solEo, solo, solo1, allsz, List.all_cons, List.all_nil, Bool.and_true, beq_self_eq_true, List.length_cons, List.length_nil, Nat.zero_add, srcv, Nat.le_refl, List.take_succ_cons, List.take_zero, and_self, if_true, Nat.reduceAdd, Nat.reduceLT, eq_self, fa_o, ↓ldv_f, ↓ldv_n, ↓stv_f, ↓stv_a, fldv, setf, bldv, small, Bool.true_and, List.getElem?_cons_zero, List.getElem?_cons_succ, List.set_cons_zero, List.set_cons_succ, Bool.false_eq_true, if_false, true_and, and_true, reduceCtorEq, false_implies, implies_true, forall_const, ↓fv_c0, l_ints]
  refine loop_rule (fun m E H n => ∃ k : Nat, m + k = c.parents.length ∧ E 1 = .int .i64 i ∧ E 2 = .optr 2 b 3 0 none ∧ E 8 = ints c.parents ∧ E 9 = .int .i64 c.parents.length ∧ E 10 = .int .i64 k ∧ H 2 = some ⟨b, 3, [commitV c], false, false, false⟩ ∧ ∀ j, j < k → ∀ p, c.parents[j]? = some p → parI i c.parents j p = true)
    (fun e E H n => (e = .exit 0 ∧ E 2 = .optr 2 b 3 0 none ∧ H 2 = some ⟨b, 3, [commitV c], false, false, false⟩ ∧ parOk c.parents i = decide (c.parents.length ≤ 2)) ∨ (e = .ret ∧ E 4 = .bool false ∧ commitOk i c = false)) c.parents.length
    ⟨0, rfl, by first | (simp -dsimp only [↓SD, SP, ↓reduceIte, Nat.reduceEqDiff, ini, frz, rdAo, rd3o, rd2o, rdpo, rd1o, fnv, intv, VOp.dst, getRo, solEo, solo, solo1, allsz, List.all_cons, List.all_nil, Bool.and_true, beq_self_eq_true, List.length_cons, List.length_nil, Nat.zero_add, srcv, Nat.le_refl, List.take_succ_cons, List.take_zero, and_self, if_true, Nat.reduceAdd, Nat.reduceLT, eq_self]; done) | (simp -dsimp only [↓SD, SP, ↓reduceIte, Nat.reduceEqDiff, ini, frz, rdAo, rd3o, rd2o, rdpo, rd1o, fnv, intv, VOp.dst, getRo, solEo, solo, solo1, allsz, List.all_cons, List.all_nil, Bool.and_true, beq_self_eq_true, List.length_cons, List.length_nil, Nat.zero_add, srcv, Nat.le_refl, List.take_succ_cons, List.take_zero, and_self, if_true, Nat.reduceAdd, Nat.reduceLT, eq_self]; rfl) | rfl, by first | (simp -dsimp only [↓SD, SP, ↓reduceIte, Nat.reduceEqDiff, ini, frz, rdAo, rd3o, rd2o, rdpo, rd1o, fnv, intv, VOp.dst, getRo, solEo, solo, solo1, allsz, List.all_cons, List.all_nil, Bool.and_true, beq_self_eq_true, List.length_cons, List.length_nil, Nat.zero_add, srcv, Nat.le_refl, List.take_succ_cons, List.take_zero, and_self, if_true, Nat.reduceAdd, Nat.reduceLT, eq_self]; done) | (simp -dsimp only [↓SD, SP, ↓reduceIte, Nat.reduceEqDiff, ini, frz, rdAo, rd3o, rd2o, rdpo, rd1o, fnv, intv, VOp.dst, getRo, solEo, solo, solo1, allsz, List.all_cons, List.all_nil, Bool.and_true, beq_self_eq_true, List.length_cons, List.length_nil, Nat.zero_add, srcv, Nat.le_refl, List.take_succ_cons, List.take_zero, and_self, if_true, Nat.reduceAdd, Nat.reduceLT, eq_self]; rfl) | rfl, by first | (simp -dsimp only [↓SD, SP, ↓reduceIte, Nat.reduceEqDiff, ini, frz, rdAo, rd3o, rd2o, rdpo, rd1o, fnv, intv, VOp.dst, getRo, solEo, solo, solo1, allsz, List.all_cons, List.all_nil, Bool.and_true, beq_self_eq_true, List.length_cons, List.length_nil, Nat.zero_add, srcv, Nat.le_refl, List.take_succ_cons, List.take_zero, and_self, if_true, Nat.reduceAdd, Nat.reduceLT, eq_self]; done) | (simp -dsimp only [↓SD, SP, ↓reduceIte, Nat.reduceEqDiff, ini, frz, rdAo, rd3o, rd2o, rdpo, rd1o, fnv, intv, VOp.dst, getRo, solEo, solo, solo1, allsz, List.all_cons, List.all_nil, Bool.and_true, beq_self_eq_true, List.length_cons, List.length_nil, Nat.zero_add, srcv, Nat.le_refl, List.take_succ_cons, List.take_zero, and_self, if_true, Nat.reduceAdd, Nat.reduceLT, eq_self]; rfl) | rfl, by first | (simp -dsimp only [↓SD, SP, ↓reduceIte, Nat.reduceEqDiff, ini, frz, rdAo, rd3o, rd2o, rdpo, rd1o, fnv, intv, VOp.dst, getRo, solEo, solo, solo1, allsz, List.all_cons, List.all_nil, Bool.and_true, beq_self_eq_true, List.length_cons, List.length_nil, Nat.zero_add, srcv, Nat.le_refl, List.take_succ_cons, List.take_zero, and_self, if_true, Nat.reduceAdd, Nat.reduceLT, eq_self]; done) | (simp -dsimp only [↓SD, SP, ↓reduceIte, Nat.reduceEqDiff, ini, frz, rdAo, rd3o, rd2o, rdpo, rd1o, fnv, intv, VOp.dst, getRo, solEo, solo, solo1, allsz, List.all_cons, List.all_nil, Bool.and_true, beq_self_eq_true, List.length_cons, List.length_nil, Nat.zero_add, srcv, Nat.le_refl, List.take_succ_cons, List.take_zero, and_self, if_true, Nat.reduceAdd, Nat.reduceLT, eq_self]; rfl) | rfl, by first | (simp -dsimp only [↓SD, SP, ↓reduceIte, Nat.reduceEqDiff, ini, frz, rdAo, rd3o, rd2o, rdpo, rd1o, fnv, intv, VOp.dst, getRo, solEo, solo, solo1, allsz, List.all_cons, List.all_nil, Bool.and_true, beq_self_eq_true, List.length_cons, List.length_nil, Nat.zero_add, srcv, Nat.le_refl, List.take_succ_cons, List.take_zero, and_self, if_true, Nat.reduceAdd, Nat.reduceLT, eq_self]; done) | (simp -dsimp only [↓SD, SP, ↓reduceIte, Nat.reduceEqDiff, ini, frz, rdAo, rd3o, rd2o, rdpo, rd1o, fnv, intv, VOp.dst, getRo, solEo, solo, solo1, allsz, List.all_cons, List.all_nil, Bool.and_true, beq_self_eq_true, List.length_cons, List.length_nil, Nat.zero_add, srcv, Nat.le_refl, List.take_succ_cons, List.take_zero, and_self, if_true, Nat.reduceAdd, Nat.reduceLT, eq_self]; rfl) | rfl, by first | (simp -dsimp only [↓SD, SP, ↓reduceIte, Nat.reduceEqDiff, ini, frz, rdAo, rd3o, rd2o, rdpo, rd1o, fnv, intv, VOp.dst, getRo, solEo, solo, solo1, allsz, List.all_cons, List.all_nil, Bool.and_true, beq_self_eq_true, List.length_cons, List.length_nil, Nat.zero_add, srcv, Nat.le_refl, List.take_succ_cons, List.take_zero, and_self, if_true, Nat.reduceAdd, Nat.reduceLT, eq_self]; done) | (simp -dsimp only [↓SD, SP, ↓reduceIte, Nat.reduceEqDiff, ini, frz, rdAo, rd3o, rd2o, rdpo, rd1o, fnv, intv, VOp.dst, getRo, solEo, solo, solo1, allsz, List.all_cons, List.all_nil, Bool.and_true, beq_self_eq_true, List.length_cons, List.length_nil, Nat.zero_add, srcv, Nat.le_refl, List.take_succ_cons, List.take_zero, and_self, if_true, Nat.reduceAdd, Nat.reduceLT, eq_self]; rfl) | rfl, fun j h => by omega⟩ ?_ ?_
  · rintro e E H n (⟨rfl, h2, hH, hp⟩ | ⟨rfl, h4, hp⟩)
    · by_cases h3 : (c.parents.length : Int) ≤ 2
      · have h3' : c.parents.length ≤ 2 := by omega
        simp -dsimp only [↓SD, SP, ↓reduceIte, Nat.reduceEqDiff, ini, frz, rdAo, rd3o, rd2o, rdpo, rd1o, fnv, intv, VOp.dst, getRo, solEo, solo, solo1, allsz, List.all_cons, List.all_nil, Bool.and_true, beq_self_eq_true, List.length_cons, List.length_nil, Nat.zero_add, srcv, Nat.le_refl, List.take_succ_cons, List.take_zero, and_self, if_true, Nat.reduceAdd, Nat.reduceLT, eq_self, fa_o, ↓ldv_f, ↓ldv_n, ↓stv_f, ↓stv_a, fldv, setf, bldv, small, Bool.true_and, List.getElem?_cons_zero, List.getElem?_cons_succ, List.set_cons_zero, List.set_cons_succ, Bool.false_eq_true, if_false, true_and, and_true, reduceCtorEq, false_implies, implies_true, forall_const, h2, hH, ↓fv_c0, ↓fv_c1, l_ints, h3, ↓r_any]
        refine call_rule hn ?_
        rintro lo1 hi1 r - - rfl
        cases e1 : nmOk c.who
        · simp -dsimp only [↓SD, SP, ↓reduceIte, Nat.reduceEqDiff, ini, frz, rdAo, rd3o, rd2o, rdpo, rd1o, fnv, intv, VOp.dst, getRo, solEo, solo, solo1, allsz, List.all_cons, List.all_nil, Bool.and_true, beq_self_eq_true, List.length_cons, List.length_nil, Nat.zero_add, srcv, Nat.le_refl, List.take_succ_cons, List.take_zero, and_self, if_true, Nat.reduceAdd, Nat.reduceLT, eq_self, fa_o, ↓ldv_f, ↓ldv_n, ↓stv_f, ↓stv_a, fldv, setf, bldv, small, Bool.true_and, List.getElem?_cons_zero, List.getElem?_cons_succ, List.set_cons_zero, List.set_cons_succ, Bool.false_eq_true, if_false, true_and, and_true, reduceCtorEq, false_implies, implies_true, forall_const, ↓r_any]
          simp [commitOk, hp, h3', e1]
        · simp -dsimp only [↓SD, SP, ↓reduceIte, Nat.reduceEqDiff, ini, frz, rdAo, rd3o, rd2o, rdpo, rd1o, fnv, intv, VOp.dst, getRo, solEo, solo, solo1, allsz, List.all_cons, List.all_nil, Bool.and_true, beq_self_eq_true, List.length_cons, List.length_nil, Nat.zero_add, srcv, Nat.le_refl, List.take_succ_cons, List.take_zero, and_self, if_true, Nat.reduceAdd, Nat.reduceLT, eq_self, fa_o, ↓ldv_f, ↓ldv_n, ↓stv_f, ↓stv_a, fldv, setf, bldv, small, Bool.true_and, List.getElem?_cons_zero, List.getElem?_cons_succ, List.set_cons_zero, List.set_cons_succ, Bool.false_eq_true, if_false, true_and, and_true, reduceCtorEq, false_implies, implies_true, forall_const, h2, hH, ↓fv_c2, ↓rd_lv, ↓r_any]
          refine call_rule ht ?_
          rintro lo2 hi2 r - - rfl
          simp -dsimp only [↓SD, SP, ↓reduceIte, Nat.reduceEqDiff, ini, frz, rdAo, rd3o, rd2o, rdpo, rd1o, fnv, intv, VOp.dst, getRo, solEo, solo, solo1, allsz, List.all_cons, List.all_nil, Bool.and_true, beq_self_eq_true, List.length_cons, List.length_nil, Nat.zero_add, srcv, Nat.le_refl, List.take_succ_cons, List.take_zero, and_self, if_true, Nat.reduceAdd, Nat.reduceLT, eq_self, ↓r_any]
          simp [commitOk, hp, h3', e1]
      · simp -dsimp only [↓SD, SP, ↓reduceIte, Nat.reduceEqDiff, ini, frz, rdAo, rd3o, rd2o, rdpo, rd1o, fnv, intv, VOp.dst, getRo, solEo, solo, solo1, allsz, List.all_cons, List.all_nil, Bool.and_true, beq_self_eq_true, List.length_cons, List.length_nil, Nat.zero_add, srcv, Nat.le_refl, List.take_succ_cons, List.take_zero, and_self, if_true, Nat.reduceAdd, Nat.reduceLT, eq_self, fa_o, ↓ldv_f, ↓ldv_n, ↓stv_f, ↓stv_a, fldv, setf, bldv, small, Bool.true_and, List.getElem?_cons_zero, List.getElem?_cons_succ, List.set_cons_zero, List.set_cons_succ, Bool.false_eq_true, if_false, true_and, and_true, reduceCtorEq, false_implies, implies_true, forall_const, h2, hH, ↓fv_c0, l_ints, h3, ↓r_any]
        simp [commitOk, hp, show ¬ c.parents.length ≤ 2 by omega]
    · simp -dsimp only [↓SD, SP, ↓reduceIte, Nat.reduceEqDiff, ini, frz, rdAo, rd3o, rd2o, rdpo, rd1o, fnv, intv, VOp.dst, getRo, solEo, solo, solo1, allsz, List.all_cons, List.all_nil, Bool.and_true, beq_self_eq_true, List.length_cons, List.length_nil, Nat.zero_add, srcv, Nat.le_refl, List.take_succ_cons, List.take_zero, and_self, if_true, Nat.reduceAdd, Nat.reduceLT, eq_self, h4, hp]
  · rintro m E H n Q K ⟨k, hm, h1, h2, h8, h9, h10, hH, hok⟩ hQ hK
    by_cases hk : k < c.parents.length
    · have hget : c.parents[k]? = some c.parents[k] := List.getElem?_eq_getElem hk
      have no : parI i c.parents k c.parents[k] = false → ∀ E H n, E 4 = .bool false → Q .ret E H n := fun h E H n h2 => hQ _ _ _ _ (.inr ⟨rfl, h2, by unfold commitOk parOk; rw [allI_no hget h]; rfl⟩)
      have hkk : parI i c.parents k c.parents[k] = (decide (0 ≤ c.parents[k] ∧ c.parents[k] ≤ (i : Int) - 1) && !(c.parents.take k).any (fun q => decide (c.parents[k] = q))) := rfl
      have hx := x_ints c.parents k hk
      generalize c.parents[k] = p at *
      simp -dsimp only [↓SD, SP, ↓reduceIte, Nat.reduceEqDiff, ini, frz, rdAo, rd3o, rd2o, rdpo, rd1o, fnv, intv, VOp.dst, getRo, solEo, solo, solo1, allsz, List.all_cons, List.all_nil, Bool.and_true, beq_self_eq_true, List.length_cons, List.length_nil, Nat.zero_add, srcv, Nat.le_refl, List.take_succ_cons, List.take_zero, and_self, if_true, Nat.reduceAdd, Nat.reduceLT, eq_self, h1, h8, h9, h10, Int.ofNat_lt, hk, hx, d_iz, wrap64 ((i : Int) - 1) (by omega)]
      refine call_rule (hw p 0 ((i : Int) - 1)) ?_
      rintro lo1 hi1 r - - rfl
      by_cases hr : 0 ≤ p ∧ p ≤ (i : Int) - 1
      · have x1 := fun H => sl_intsTo H c.parents k (by omega)
        have x2 := fun H => rd_slI H k c.parents (by omega)
        simp -dsimp only [↓SD, SP, ↓reduceIte, Nat.reduceEqDiff, ini, frz, rdAo, rd3o, rd2o, rdpo, rd1o, fnv, intv, VOp.dst, getRo, solEo, solo, solo1, allsz, List.all_cons, List.all_nil, Bool.and_true, beq_self_eq_true, List.length_cons, List.length_nil, Nat.zero_add, srcv, Nat.le_refl, List.take_succ_cons, List.take_zero, and_self, if_true, Nat.reduceAdd, Nat.reduceLT, eq_self, fa_o, ↓ldv_f, ↓ldv_n, ↓stv_f, ↓stv_a, fldv, setf, bldv, small, Bool.true_and, List.getElem?_cons_zero, List.getElem?_cons_succ, List.set_cons_zero, List.set_cons_succ, Bool.false_eq_true, if_false, true_and, and_true, reduceCtorEq, false_implies, implies_true, forall_const, hr, h2, hH, ↓fv_c0, x1, ↓x2, ↓r_any, decide_true, Bool.not_true]
        refine call_rule (hct k (by omega) p) ?_
        rintro lo2 hi2 r - - rfl
        cases e4 : (c.parents.take k).any fun q => decide (p = q)
        · simp -dsimp only [↓SD, SP, ↓reduceIte, Nat.reduceEqDiff, ini, frz, rdAo, rd3o, rd2o, rdpo, rd1o, fnv, intv, VOp.dst, getRo, solEo, solo, solo1, allsz, List.all_cons, List.all_nil, Bool.and_true, beq_self_eq_true, List.length_cons, List.length_nil, Nat.zero_add, srcv, Nat.le_refl, List.take_succ_cons, List.take_zero, and_self, if_true, Nat.reduceAdd, Nat.reduceLT, eq_self, ↓r_any, h10, wrap64 ((k : Int) + 1) (by omega)]
          refine hK (m - 1) _ _ _ (by omega) ⟨k + 1, by omega, by first | (simp -dsimp only [↓SD, SP, ↓reduceIte, Nat.reduceEqDiff, ini, frz, rdAo, rd3o, rd2o, rdpo, rd1o, fnv, intv, VOp.dst, getRo, solEo, solo, solo1, allsz, List.all_cons, List.all_nil, Bool.and_true, beq_self_eq_true, List.length_cons, List.length_nil, Nat.zero_add, srcv, Nat.le_refl, List.take_succ_cons, List.take_zero, and_self, if_true, Nat.reduceAdd, Nat.reduceLT, eq_self, h1]; done) | (simp -dsimp only [↓SD, SP, ↓reduceIte, Nat.reduceEqDiff, ini, frz, rdAo, rd3o, rd2o, rdpo, rd1o, fnv, intv, VOp.dst, getRo, solEo, solo, solo1, allsz, List.all_cons, List.all_nil, Bool.and_true, beq_self_eq_true, List.length_cons, List.length_nil, Nat.zero_add, srcv, Nat.le_refl, List.take_succ_cons, List.take_zero, and_self, if_true, Nat.reduceAdd, Nat.reduceLT, eq_self, h1]; rfl) | rfl, by first | (simp -dsimp only [↓SD, SP, ↓reduceIte, Nat.reduceEqDiff, ini, frz, rdAo, rd3o, rd2o, rdpo, rd1o, fnv, intv, VOp.dst, getRo, solEo, solo, solo1, allsz, List.all_cons, List.all_nil, Bool.and_true, beq_self_eq_true, List.length_cons, List.length_nil, Nat.zero_add, srcv, Nat.le_refl, List.take_succ_cons, List.take_zero, and_self, if_true, Nat.reduceAdd, Nat.reduceLT, eq_self, h2]; done) | (simp -dsimp only [↓SD, SP, ↓reduceIte, Nat.reduceEqDiff, ini, frz, rdAo, rd3o, rd2o, rdpo, rd1o, fnv, intv, VOp.dst, getRo, solEo, solo, solo1, allsz, List.all_cons, List.all_nil, Bool.and_true, beq_self_eq_true, List.length_cons, List.length_nil, Nat.zero_add, srcv, Nat.le_refl, List.take_succ_cons, List.take_zero, and_self, if_true, Nat.reduceAdd, Nat.reduceLT, eq_self, h2]; rfl) | rfl, by first | (simp -dsimp only [↓SD, SP, ↓reduceIte, Nat.reduceEqDiff, ini, frz, rdAo, rd3o, rd2o, rdpo, rd1o, fnv, intv, VOp.dst, getRo, solEo, solo, solo1, allsz, List.all_cons, List.all_nil, Bool.and_true, beq_self_eq_true, List.length_cons, List.length_nil, Nat.zero_add, srcv, Nat.le_refl, List.take_succ_cons, List.take_zero, and_self, if_true, Nat.reduceAdd, Nat.reduceLT, eq_self, h8]; done) | (simp -dsimp only [↓SD, SP, ↓reduceIte, Nat.reduceEqDiff, ini, frz, rdAo, rd3o, rd2o, rdpo, rd1o, fnv, intv, VOp.dst, getRo, solEo, solo, solo1, allsz, List.all_cons, List.all_nil, Bool.and_true, beq_self_eq_true, List.length_cons, List.length_nil, Nat.zero_add, srcv, Nat.le_refl, List.take_succ_cons, List.take_zero, and_self, if_true, Nat.reduceAdd, Nat.reduceLT, eq_self, h8]; rfl) | rfl, by first | (simp -dsimp only [↓SD, SP, ↓reduceIte, Nat.reduceEqDiff, ini, frz, rdAo, rd3o, rd2o, rdpo, rd1o, fnv, intv, VOp.dst, getRo, solEo, solo, solo1, allsz, List.all_cons, List.all_nil, Bool.and_true, beq_self_eq_true, List.length_cons, List.length_nil, Nat.zero_add, srcv, Nat.le_refl, List.take_succ_cons, List.take_zero, and_self, if_true, Nat.reduceAdd, Nat.reduceLT, eq_self, h9]; done) | (simp -dsimp only [↓SD, SP, ↓reduceIte, Nat.reduceEqDiff, ini, frz, rdAo, rd3o, rd2o, rdpo, rd1o, fnv, intv, VOp.dst, getRo, solEo, solo, solo1, allsz, List.all_cons, List.all_nil, Bool.and_true, beq_self_eq_true, List.length_cons, List.length_nil, Nat.zero_add, srcv, Nat.le_refl, List.take_succ_cons, List.take_zero, and_self, if_true, Nat.reduceAdd, Nat.reduceLT, eq_self, h9]; rfl) | rfl, by first | (simp -dsimp only [↓SD, SP, ↓reduceIte, Nat.reduceEqDiff, ini, frz, rdAo, rd3o, rd2o, rdpo, rd1o, fnv, intv, VOp.dst, getRo, solEo, solo, solo1, allsz, List.all_cons, List.all_nil, Bool.and_true, beq_self_eq_true, List.length_cons, List.length_nil, Nat.zero_add, srcv, Nat.le_refl, List.take_succ_cons, List.take_zero, and_self, if_true, Nat.reduceAdd, Nat.reduceLT, eq_self, Int.natCast_add, Int.natCast_one]; done) | (simp -dsimp only [↓SD, SP, ↓reduceIte, Nat.reduceEqDiff, ini, frz, rdAo, rd3o, rd2o, rdpo, rd1o, fnv, intv, VOp.dst, getRo, solEo, solo, solo1, allsz, List.all_cons, List.all_nil, Bool.and_true, beq_self_eq_true, List.length_cons, List.length_nil, Nat.zero_add, srcv, Nat.le_refl, List.take_succ_cons, List.take_zero, and_self, if_true, Nat.reduceAdd, Nat.reduceLT, eq_self, Int.natCast_add, Int.natCast_one]; rfl) | rfl, by first | (simp -dsimp only [↓SD, SP, ↓reduceIte, Nat.reduceEqDiff, ini, frz, rdAo, rd3o, rd2o, rdpo, rd1o, fnv, intv, VOp.dst, getRo, solEo, solo, solo1, allsz, List.all_cons, List.all_nil, Bool.and_true, beq_self_eq_true, List.length_cons, List.length_nil, Nat.zero_add, srcv, Nat.le_refl, List.take_succ_cons, List.take_zero, and_self, if_true, Nat.reduceAdd, Nat.reduceLT, eq_self, hH]; done) | (simp -dsimp only [↓SD, SP, ↓reduceIte, Nat.reduceEqDiff, ini, frz, rdAo, rd3o, rd2o, rdpo, rd1o, fnv, intv, VOp.dst, getRo, solEo, solo, solo1, allsz, List.all_cons, List.all_nil, Bool.and_true, beq_self_eq_true, List.length_cons, List.length_nil, Nat.zero_add, srcv, Nat.le_refl, List.take_succ_cons, List.take_zero, and_self, if_true, Nat.reduceAdd, Nat.reduceLT, eq_self, hH]; rfl) | rfl, fun j hj q hq => ?_⟩
          rcases Nat.lt_or_ge j k with h' | h'
          · exact hok j h' q hq
          · obtain rfl : j = k := by omega
            rw [hget] at hq
            obtain rfl := Option.some.inj hq
            rw [hkk, e4]
            simp [hr]
        · simp -dsimp only [↓SD, SP, ↓reduceIte, Nat.reduceEqDiff, ini, frz, rdAo, rd3o, rd2o, rdpo, rd1o, fnv, intv, VOp.dst, getRo, solEo, solo, solo1, allsz, List.all_cons, List.all_nil, Bool.and_true, beq_self_eq_true, List.length_cons, List.length_nil, Nat.zero_add, srcv, Nat.le_refl, List.take_succ_cons, List.take_zero, and_self, if_true, Nat.reduceAdd, Nat.reduceLT, eq_self, ↓r_any]
          refine no (by rw [hkk, e4]; simp) _ _ _ ?_
          simp -dsimp only [↓SD, SP, ↓reduceIte, Nat.reduceEqDiff, ini, frz, rdAo, rd3o, rd2o, rdpo, rd1o, fnv, intv, VOp.dst, getRo, solEo, solo, solo1, allsz, List.all_cons, List.all_nil, Bool.and_true, beq_self_eq_true, List.length_cons, List.length_nil, Nat.zero_add, srcv, Nat.le_refl, List.take_succ_cons, List.take_zero, and_self, if_true, Nat.reduceAdd, Nat.reduceLT, eq_self]
      · simp -dsimp only [↓SD, SP, ↓reduceIte, Nat.reduceEqDiff, ini, frz, rdAo, rd3o, rd2o, rdpo, rd1o, fnv, intv, VOp.dst, getRo, solEo, solo, solo1, allsz, List.all_cons, List.all_nil, Bool.and_true, beq_self_eq_true, List.length_cons, List.length_nil, Nat.zero_add, srcv, Nat.le_refl, List.take_succ_cons, List.take_zero, and_self, if_true, Nat.reduceAdd, Nat.reduceLT, eq_self, hr, ↓r_any, decide_false, Bool.not_false]
        refine no (by rw [hkk]; simp [hr]) _ _ _ ?_
        simp -dsimp only [↓SD, SP, ↓reduceIte, Nat.reduceEqDiff, ini, frz, rdAo, rd3o, rd2o, rdpo, rd1o, fnv, intv, VOp.dst, getRo, solEo, solo, solo1, allsz, List.all_cons, List.all_nil, Bool.and_true, beq_self_eq_true, List.length_cons, List.length_nil, Nat.zero_add, srcv, Nat.le_refl, List.take_succ_cons, List.take_zero, and_self, if_true, Nat.reduceAdd, Nat.reduceLT, eq_self]
    · simp -dsimp only [↓SD, SP, ↓reduceIte, Nat.reduceEqDiff, ini, frz, rdAo, rd3o, rd2o, rdpo, rd1o, fnv, intv, VOp.dst, getRo, solEo, solo, solo1, allsz, List.all_cons, List.all_nil, Bool.and_true, beq_self_eq_true, List.length_cons, List.length_nil, Nat.zero_add, srcv, Nat.le_refl, List.take_succ_cons, List.take_zero, and_self, if_true, Nat.reduceAdd, Nat.reduceLT, eq_self, h9, h10, Int.ofNat_lt, hk]
      exact hQ _ _ _ _ (.inl ⟨rfl, h2, hH, by unfold parOk; rw [allI_yes (fun j hj f hf => hok j (by omega) f hf), Bool.true_and]⟩)
end Go.AVM

/- RepoOk, both. -/
set_option linter.unusedSimpArgs false
set_option linter.unusedVariables false
namespace Go.AVM
theorem stv_hd (H : Hp) (h : HeadL) (d b s i : Nat) : stv H (some 2) (headV h) (.optr d b s i none) = (H d).bind fun k0 => if k0.row = true then stvS H 2 (headV h) d b s i else
    if k0.b = b ∧ k0.s = s ∧ k0.fz = false ∧ i < k0.xs.length ∧ 2 = 2 ∧ 2 = s then some (updH H d (some { k0 with xs := k0.xs.set i (headV h) })) else none := stv_a H 2 _ d b s i
theorem s_headsOk (hs : List HeadL) (N : Nat) (ho : okHds hs) (hN : N ≤ 1000000) : OK Go.Proofs.Tryd.prog 34 [headsV hs, .int .i64 N] (fun _ _ r => r = .bool (headsOk hs N)) := by
  refine fn_ok k34 rfl ?_
  have hw := s_within
  have hnm := fun s h => s_nameOk s h
  generalize OK Go.Proofs.Tryd.prog = L at *
  intro lo
  have hlen := ho.1
  simp -dsimp only [↓SD, SP, ↓reduceIte, Nat.reduceEqDiff, ini, frz, rdAo, rd3o, rd2o, rdpo, rd1o, fnv, intv, VOp.dst, getRo, solEo, solo, solo1, allsz, List.all_cons, List.all_nil, Bool.and_true, beq_self_eq_true, List.length_cons, List.length_nil, Nat.zero_add, srcv, Nat.le_refl, List.take_succ_cons, List.take_zero, and_self, if_true, Nat.reduceAdd, Nat.reduceLT, eq_self, c34, l_lv]
  refine loop_rule (fun m E H n => ∃ i : Nat, m + i = hs.length ∧ E 0 = headsV hs ∧ E 1 = .int .i64 N ∧ E 7 = headsV hs ∧ E 8 = .int .i64 hs.length ∧ E 9 = .int .i64 i ∧ ∀ j, j < i → ∀ f, hs[j]? = some f → hOkI N hs j f = true)
    (fun e E H n => (e = .exit 0 ∧ E 0 = headsV hs ∧ headsOk hs N = decide (hs.length ≤ 5)) ∨ (e = .ret ∧ E 4 = .bool (headsOk hs N))) hs.length ⟨0, rfl, rfl, rfl, rfl, rfl, rfl, fun j h => by omega⟩ ?_ ?_
  · rintro e E H n (⟨rfl, h0, h1⟩ | ⟨rfl, h2⟩)
    · simp -dsimp only [↓SD, SP, ↓reduceIte, Nat.reduceEqDiff, ini, frz, rdAo, rd3o, rd2o, rdpo, rd1o, fnv, intv, VOp.dst, getRo, solEo, solo, solo1, allsz, List.all_cons, List.all_nil, Bool.and_true, beq_self_eq_true, List.length_cons, List.length_nil, Nat.zero_add, srcv, Nat.le_refl, List.take_succ_cons, List.take_zero, and_self, if_true, Nat.reduceAdd, Nat.reduceLT, eq_self, h0, h1, l_lv, Int.ofNat_le, show (5 : Int) = ((5 : Nat) : Int) from rfl]
    · simp -dsimp only [↓SD, SP, ↓reduceIte, Nat.reduceEqDiff, ini, frz, rdAo, rd3o, rd2o, rdpo, rd1o, fnv, intv, VOp.dst, getRo, solEo, solo, solo1, allsz, List.all_cons, List.all_nil, Bool.and_true, beq_self_eq_true, List.length_cons, List.length_nil, Nat.zero_add, srcv, Nat.le_refl, List.take_succ_cons, List.take_zero, and_self, if_true, Nat.reduceAdd, Nat.reduceLT, eq_self, h2]
  · rintro m E H n Q K ⟨i, hm, h0, h1, h7, h8, h9, hok⟩ hQ hK
    by_cases hi : i < hs.length
    · have hoh := ho.2 hs[i] (List.getElem_mem hi)
      have hget : hs[i]? = some hs[i] := List.getElem?_eq_getElem hi
      have no : hOkI N hs i hs[i] = false → ∀ E H n, E 4 = .bool false → Q .ret E H n := fun h E H n h2 => hQ _ _ _ _ (.inr ⟨rfl, by rw [h2]; unfold headsOk; rw [allI_no hget h]; rfl⟩)
      have hkk : hOkI N hs i hs[i] = (nmOk hs[i].name && (decide (0 ≤ hs[i].at_ ∧ hs[i].at_ ≤ (N : Int) - 1) && prevH hs i hs[i])) := rfl
      have hx := x_lv el_head hs i hi
      generalize hs[i] = f at *
      simp -dsimp only [↓SD, SP, ↓reduceIte, Nat.reduceEqDiff, ini, frz, rdAo, rd3o, rd2o, rdpo, rd1o, fnv, intv, VOp.dst, getRo, solEo, solo, solo1, allsz, List.all_cons, List.all_nil, Bool.and_true, beq_self_eq_true, List.length_cons, List.length_nil, Nat.zero_add, srcv, Nat.le_refl, List.take_succ_cons, List.take_zero, and_self, if_true, Nat.reduceAdd, Nat.reduceLT, eq_self, h0, h1, h7, h8, h9, Int.ofNat_lt, hi, hx, ↓d_lv el_head, ↓r_any]
      refine bal_mk fun b hb => ?_
      simp -dsimp only [↓SD, SP, ↓reduceIte, Nat.reduceEqDiff, ini, frz, rdAo, rd3o, rd2o, rdpo, rd1o, fnv, intv, VOp.dst, getRo, solEo, solo, solo1, allsz, List.all_cons, List.all_nil, Bool.and_true, beq_self_eq_true, List.length_cons, List.length_nil, Nat.zero_add, srcv, Nat.le_refl, List.take_succ_cons, List.take_zero, and_self, if_true, Nat.reduceAdd, Nat.reduceLT, eq_self, fa_o, ↓ldv_f, ↓ldv_n, ↓stv_f, ↓stv_a, fldv, setf, bldv, small, Bool.true_and, List.getElem?_cons_zero, List.getElem?_cons_succ, List.set_cons_zero, List.set_cons_succ, Bool.false_eq_true, if_false, true_and, and_true, reduceCtorEq, false_implies, implies_true, forall_const, ↓stv_hd, fz_head, sz_head, ↓fv_d0, ↓r_any]
      refine call_rule (hnm _ hoh) ?_
      rintro lo1 hi1 r - - rfl
      cases e1 : nmOk f.name
      · simp -dsimp only [↓SD, SP, ↓reduceIte, Nat.reduceEqDiff, ini, frz, rdAo, rd3o, rd2o, rdpo, rd1o, fnv, intv, VOp.dst, getRo, solEo, solo, solo1, allsz, List.all_cons, List.all_nil, Bool.and_true, beq_self_eq_true, List.length_cons, List.length_nil, Nat.zero_add, srcv, Nat.le_refl, List.take_succ_cons, List.take_zero, and_self, if_true, Nat.reduceAdd, Nat.reduceLT, eq_self, fa_o, ↓ldv_f, ↓ldv_n, ↓stv_f, ↓stv_a, fldv, setf, bldv, small, Bool.true_and, List.getElem?_cons_zero, List.getElem?_cons_succ, List.set_cons_zero, List.set_cons_succ, Bool.false_eq_true, if_false, true_and, and_true, reduceCtorEq, false_implies, implies_true, forall_const, ↓r_any]
        refine no (by rw [hkk, e1]; rfl) _ _ _ ?_
        simp -dsimp only [↓SD, SP, ↓reduceIte, Nat.reduceEqDiff, ini, frz, rdAo, rd3o, rd2o, rdpo, rd1o, fnv, intv, VOp.dst, getRo, solEo, solo, solo1, allsz, List.all_cons, List.all_nil, Bool.and_true, beq_self_eq_true, List.length_cons, List.length_nil, Nat.zero_add, srcv, Nat.le_refl, List.take_succ_cons, List.take_zero, and_self, if_true, Nat.reduceAdd, Nat.reduceLT, eq_self]
      simp -dsimp only [↓SD, SP, ↓reduceIte, Nat.reduceEqDiff, ini, frz, rdAo, rd3o, rd2o, rdpo, rd1o, fnv, intv, VOp.dst, getRo, solEo, solo, solo1, allsz, List.all_cons, List.all_nil, Bool.and_true, beq_self_eq_true, List.length_cons, List.length_nil, Nat.zero_add, srcv, Nat.le_refl, List.take_succ_cons, List.take_zero, and_self, if_true, Nat.reduceAdd, Nat.reduceLT, eq_self, fa_o, ↓ldv_f, ↓ldv_n, ↓stv_f, ↓stv_a, fldv, setf, bldv, small, Bool.true_and, List.getElem?_cons_zero, List.getElem?_cons_succ, List.set_cons_zero, List.set_cons_succ, Bool.false_eq_true, if_false, true_and, and_true, reduceCtorEq, false_implies, implies_true, forall_const, h1, ↓fv_d1, ↓r_any, wrap64 ((N : Int) - 1) (by omega)]
      refine call_rule (hw f.at_ 0 ((N : Int) - 1)) ?_
      rintro lo2 hi2 r - - rfl
      by_cases hr : 0 ≤ f.at_ ∧ f.at_ ≤ (N : Int) - 1
      case neg =>
        simp -dsimp only [↓SD, SP, ↓reduceIte, Nat.reduceEqDiff, ini, frz, rdAo, rd3o, rd2o, rdpo, rd1o, fnv, intv, VOp.dst, getRo, solEo, solo, solo1, allsz, List.all_cons, List.all_nil, Bool.and_true, beq_self_eq_true, List.length_cons, List.length_nil, Nat.zero_add, srcv, Nat.le_refl, List.take_succ_cons, List.take_zero, and_self, if_true, Nat.reduceAdd, Nat.reduceLT, eq_self, fa_o, ↓ldv_f, ↓ldv_n, ↓stv_f, ↓stv_a, fldv, setf, bldv, small, Bool.true_and, List.getElem?_cons_zero, List.getElem?_cons_succ, List.set_cons_zero, List.set_cons_succ, Bool.false_eq_true, if_false, true_and, and_true, reduceCtorEq, false_implies, implies_true, forall_const, hr, ↓r_any, decide_false, Bool.not_false]
        refine no (by rw [hkk, e1]; simp [hr]) _ _ _ ?_
        simp -dsimp only [↓SD, SP, ↓reduceIte, Nat.reduceEqDiff, ini, frz, rdAo, rd3o, rd2o, rdpo, rd1o, fnv, intv, VOp.dst, getRo, solEo, solo, solo1, allsz, List.all_cons, List.all_nil, Bool.and_true, beq_self_eq_true, List.length_cons, List.length_nil, Nat.zero_add, srcv, Nat.le_refl, List.take_succ_cons, List.take_zero, and_self, if_true, Nat.reduceAdd, Nat.reduceLT, eq_self]
      have hrd : decide (0 ≤ f.at_ ∧ f.at_ ≤ (N : Int) - 1) = true := decide_eq_true hr
      by_cases hi0 : (0 : Int) < i
      · have hj : i - 1 < hs.length := by omega
        have hprev : prevH hs i f = sLt hs[i - 1].name f.name := by
          simp only [prevH, List.getElem?_eq_getElem hj, Option.map_some, Option.getD_some, show ¬ i = 0 by omega, decide_false, Bool.false_or]
        have hx1 := x_lv el_head hs (i - 1) hj
        cases e3 : sLt hs[i - 1].name f.name
        · simp -dsimp only [↓SD, SP, ↓reduceIte, Nat.reduceEqDiff, ini, frz, rdAo, rd3o, rd2o, rdpo, rd1o, fnv, intv, VOp.dst, getRo, solEo, solo, solo1, allsz, List.all_cons, List.all_nil, Bool.and_true, beq_self_eq_true, List.length_cons, List.length_nil, Nat.zero_add, srcv, Nat.le_refl, List.take_succ_cons, List.take_zero, and_self, if_true, Nat.reduceAdd, Nat.reduceLT, eq_self, fa_o, ↓ldv_f, ↓ldv_n, ↓stv_f, ↓stv_a, fldv, setf, bldv, small, Bool.true_and, List.getElem?_cons_zero, List.getElem?_cons_succ, List.set_cons_zero, List.set_cons_succ, Bool.false_eq_true, if_false, true_and, and_true, reduceCtorEq, false_implies, implies_true, forall_const, hr, h0, h9, hi0, wrap64 ((i : Int) - 1) (by omega), show (i : Int) - 1 = ((i - 1 : Nat) : Int) by omega, wrap64 ((i - 1 : Nat) : Int) (by omega), hx1, fa_d0, ↓fv_d0, v_sgeq, e3, ↓r_any, decide_true, Bool.not_true, Bool.not_false]
          refine no (by rw [hkk, e1, hrd, hprev, e3]; rfl) _ _ _ ?_
          simp -dsimp only [↓SD, SP, ↓reduceIte, Nat.reduceEqDiff, ini, frz, rdAo, rd3o, rd2o, rdpo, rd1o, fnv, intv, VOp.dst, getRo, solEo, solo, solo1, allsz, List.all_cons, List.all_nil, Bool.and_true, beq_self_eq_true, List.length_cons, List.length_nil, Nat.zero_add, srcv, Nat.le_refl, List.take_succ_cons, List.take_zero, and_self, if_true, Nat.reduceAdd, Nat.reduceLT, eq_self]
        · simp -dsimp only [↓SD, SP, ↓reduceIte, Nat.reduceEqDiff, ini, frz, rdAo, rd3o, rd2o, rdpo, rd1o, fnv, intv, VOp.dst, getRo, solEo, solo, solo1, allsz, List.all_cons, List.all_nil, Bool.and_true, beq_self_eq_true, List.length_cons, List.length_nil, Nat.zero_add, srcv, Nat.le_refl, List.take_succ_cons, List.take_zero, and_self, if_true, Nat.reduceAdd, Nat.reduceLT, eq_self, fa_o, ↓ldv_f, ↓ldv_n, ↓stv_f, ↓stv_a, fldv, setf, bldv, small, Bool.true_and, List.getElem?_cons_zero, List.getElem?_cons_succ, List.set_cons_zero, List.set_cons_succ, Bool.false_eq_true, if_false, true_and, and_true, reduceCtorEq, false_implies, implies_true, forall_const, hr, h0, h9, hi0, wrap64 ((i : Int) - 1) (by omega), show (i : Int) - 1 = ((i - 1 : Nat) : Int) by omega, wrap64 ((i - 1 : Nat) : Int) (by omega), hx1, fa_d0, ↓fv_d0, v_sgeq, e3, ↓r_any, decide_true, Bool.not_true, wrap64 ((i : Int) + 1) (by omega)]
          refine hK (m - 1) _ _ _ (by omega) ⟨i + 1, by omega, by first | (simp -dsimp only [↓SD, SP, ↓reduceIte, Nat.reduceEqDiff, ini, frz, rdAo, rd3o, rd2o, rdpo, rd1o, fnv, intv, VOp.dst, getRo, solEo, solo, solo1, allsz, List.all_cons, List.all_nil, Bool.and_true, beq_self_eq_true, List.length_cons, List.length_nil, Nat.zero_add, srcv, Nat.le_refl, List.take_succ_cons, List.take_zero, and_self, if_true, Nat.reduceAdd, Nat.reduceLT, eq_self, h0]; done) | (simp -dsimp only [↓SD, SP, ↓reduceIte, Nat.reduceEqDiff, ini, frz, rdAo, rd3o, rd2o, rdpo, rd1o, fnv, intv, VOp.dst, getRo, solEo, solo, solo1, allsz, List.all_cons, List.all_nil, Bool.and_true, beq_self_eq_true, List.length_cons, List.length_nil, Nat.zero_add, srcv, Nat.le_refl, List.take_succ_cons, List.take_zero, and_self, if_true, Nat.reduceAdd, Nat.reduceLT, eq_self, h0]; rfl) | rfl, by first | (simp -dsimp only [↓SD, SP, ↓reduceIte, Nat.reduceEqDiff, ini, frz, rdAo, rd3o, rd2o, rdpo, rd1o, fnv, intv, VOp.dst, getRo, solEo, solo, solo1, allsz, List.all_cons, List.all_nil, Bool.and_true, beq_self_eq_true, List.length_cons, List.length_nil, Nat.zero_add, srcv, Nat.le_refl, List.take_succ_cons, List.take_zero, and_self, if_true, Nat.reduceAdd, Nat.reduceLT, eq_self, h1]; done) | (simp -dsimp only [↓SD, SP, ↓reduceIte, Nat.reduceEqDiff, ini, frz, rdAo, rd3o, rd2o, rdpo, rd1o, fnv, intv, VOp.dst, getRo, solEo, solo, solo1, allsz, List.all_cons, List.all_nil, Bool.and_true, beq_self_eq_true, List.length_cons, List.length_nil, Nat.zero_add, srcv, Nat.le_refl, List.take_succ_cons, List.take_zero, and_self, if_true, Nat.reduceAdd, Nat.reduceLT, eq_self, h1]; rfl) | rfl, by first | (simp -dsimp only [↓SD, SP, ↓reduceIte, Nat.reduceEqDiff, ini, frz, rdAo, rd3o, rd2o, rdpo, rd1o, fnv, intv, VOp.dst, getRo, solEo, solo, solo1, allsz, List.all_cons, List.all_nil, Bool.and_true, beq_self_eq_true, List.length_cons, List.length_nil, Nat.zero_add, srcv, Nat.le_refl, List.take_succ_cons, List.take_zero, and_self, if_true, Nat.reduceAdd, Nat.reduceLT, eq_self, h7]; done) | (simp -dsimp only [↓SD, SP, ↓reduceIte, Nat.reduceEqDiff, ini, frz, rdAo, rd3o, rd2o, rdpo, rd1o, fnv, intv, VOp.dst, getRo, solEo, solo, solo1, allsz, List.all_cons, List.all_nil, Bool.and_true, beq_self_eq_true, List.length_cons, List.length_nil, Nat.zero_add, srcv, Nat.le_refl, List.take_succ_cons, List.take_zero, and_self, if_true, Nat.reduceAdd, Nat.reduceLT, eq_self, h7]; rfl) | rfl, by first | (simp -dsimp only [↓SD, SP, ↓reduceIte, Nat.reduceEqDiff, ini, frz, rdAo, rd3o, rd2o, rdpo, rd1o, fnv, intv, VOp.dst, getRo, solEo, solo, solo1, allsz, List.all_cons, List.all_nil, Bool.and_true, beq_self_eq_true, List.length_cons, List.length_nil, Nat.zero_add, srcv, Nat.le_refl, List.take_succ_cons, List.take_zero, and_self, if_true, Nat.reduceAdd, Nat.reduceLT, eq_self, h8]; done) | (simp -dsimp only [↓SD, SP, ↓reduceIte, Nat.reduceEqDiff, ini, frz, rdAo, rd3o, rd2o, rdpo, rd1o, fnv, intv, VOp.dst, getRo, solEo, solo, solo1, allsz, List.all_cons, List.all_nil, Bool.and_true, beq_self_eq_true, List.length_cons, List.length_nil, Nat.zero_add, srcv, Nat.le_refl, List.take_succ_cons, List.take_zero, and_self, if_true, Nat.reduceAdd, Nat.reduceLT, eq_self, h8]; rfl) | rfl, by first | (simp -dsimp only [↓SD, SP, ↓reduceIte, Nat.reduceEqDiff, ini, frz, rdAo, rd3o, rd2o, rdpo, rd1o, fnv, intv, VOp.dst, getRo, solEo, solo, solo1, allsz, List.all_cons, List.all_nil, Bool.and_true, beq_self_eq_true, List.length_cons, List.length_nil, Nat.zero_add, srcv, Nat.le_refl, List.take_succ_cons, List.take_zero, and_self, if_true, Nat.reduceAdd, Nat.reduceLT, eq_self, Int.natCast_add, Int.natCast_one]; done) | (simp -dsimp only [↓SD, SP, ↓reduceIte, Nat.reduceEqDiff, ini, frz, rdAo, rd3o, rd2o, rdpo, rd1o, fnv, intv, VOp.dst, getRo, solEo, solo, solo1, allsz, List.all_cons, List.all_nil, Bool.and_true, beq_self_eq_true, List.length_cons, List.length_nil, Nat.zero_add, srcv, Nat.le_refl, List.take_succ_cons, List.take_zero, and_self, if_true, Nat.reduceAdd, Nat.reduceLT, eq_self, Int.natCast_add, Int.natCast_one]; rfl) | rfl, fun j hj g hg => ?_⟩
          rcases Nat.lt_or_ge j i with h' | h'
          · exact hok j h' g hg
          · obtain rfl : j = i := by omega
            rw [hget] at hg
            obtain rfl := Option.some.inj hg
            rw [hkk, e1, hrd, hprev, e3]
            rfl
      · have hprev : prevH hs i f = true := by
          simp only [prevH, show i = 0 by omega, decide_true, Bool.true_or]
        simp -dsimp only [↓SD, SP, ↓reduceIte, Nat.reduceEqDiff, ini, frz, rdAo, rd3o, rd2o, rdpo, rd1o, fnv, intv, VOp.dst, getRo, solEo, solo, solo1, allsz, List.all_cons, List.all_nil, Bool.and_true, beq_self_eq_true, List.length_cons, List.length_nil, Nat.zero_add, srcv, Nat.le_refl, List.take_succ_cons, List.take_zero, and_self, if_true, Nat.reduceAdd, Nat.reduceLT, eq_self, fa_o, ↓ldv_f, ↓ldv_n, ↓stv_f, ↓stv_a, fldv, setf, bldv, small, Bool.true_and, List.getElem?_cons_zero, List.getElem?_cons_succ, List.set_cons_zero, List.set_cons_succ, Bool.false_eq_true, if_false, true_and, and_true, reduceCtorEq, false_implies, implies_true, forall_const, hr, h0, h9, hi0, ↓r_any, decide_true, Bool.not_true, wrap64 ((i : Int) + 1) (by omega)]
        refine hK (m - 1) _ _ _ (by omega) ⟨i + 1, by omega, by first | (simp -dsimp only [↓SD, SP, ↓reduceIte, Nat.reduceEqDiff, ini, frz, rdAo, rd3o, rd2o, rdpo, rd1o, fnv, intv, VOp.dst, getRo, solEo, solo, solo1, allsz, List.all_cons, List.all_nil, Bool.and_true, beq_self_eq_true, List.length_cons, List.length_nil, Nat.zero_add, srcv, Nat.le_refl, List.take_succ_cons, List.take_zero, and_self, if_true, Nat.reduceAdd, Nat.reduceLT, eq_self, h0]; done) | (simp -dsimp only [↓SD, SP, ↓reduceIte, Nat.reduceEqDiff, ini, frz, rdAo, rd3o, rd2o, rdpo, rd1o, fnv, intv, VOp.dst, getRo, solEo, solo, solo1, allsz, List.all_cons, List.all_nil, Bool.and_true, beq_self_eq_true, List.length_cons, List.length_nil, Nat.zero_add, srcv, Nat.le_refl, List.take_succ_cons, List.take_zero, and_self, if_true, Nat.reduceAdd, Nat.reduceLT, eq_self, h0]; rfl) | rfl, by first | (simp -dsimp only [↓SD, SP, ↓reduceIte, Nat.reduceEqDiff, ini, frz, rdAo, rd3o, rd2o, rdpo, rd1o, fnv, intv, VOp.dst, getRo, solEo, solo, solo1, allsz, List.all_cons, List.all_nil, Bool.and_true, beq_self_eq_true, List.length_cons, List.length_nil, Nat.zero_add, srcv, Nat.le_refl, List.take_succ_cons, List.take_zero, and_self, if_true, Nat.reduceAdd, Nat.reduceLT, eq_self, h1]; done) | (simp -dsimp only [↓SD, SP, ↓reduceIte, Nat.reduceEqDiff, ini, frz, rdAo, rd3o, rd2o, rdpo, rd1o, fnv, intv, VOp.dst, getRo, solEo, solo, solo1, allsz, List.all_cons, List.all_nil, Bool.and_true, beq_self_eq_true, List.length_cons, List.length_nil, Nat.zero_add, srcv, Nat.le_refl, List.take_succ_cons, List.take_zero, and_self, if_true, Nat.reduceAdd, Nat.reduceLT, eq_self, h1]; rfl) | rfl, by first | (simp -dsimp only [↓SD, SP, ↓reduceIte, Nat.reduceEqDiff, ini, frz, rdAo, rd3o, rd2o, rdpo, rd1o, fnv, intv, VOp.dst, getRo, solEo, solo, solo1, allsz, List.all_cons, List.all_nil, Bool.and_true, beq_self_eq_true, List.length_cons, List.length_nil, Nat.zero_add, srcv, Nat.le_refl, List.take_succ_cons, List.take_zero, and_self, if_true, Nat.reduceAdd, Nat.reduceLT, eq_self, h7]; done) | (simp -dsimp only [↓SD, SP, ↓reduceIte, Nat.reduceEqDiff, ini, frz, rdAo, rd3o, rd2o, rdpo, rd1o, fnv, intv, VOp.dst, getRo, solEo, solo, solo1, allsz, List.all_cons, List.all_nil, Bool.and_true, beq_self_eq_true, List.length_cons, List.length_nil, Nat.zero_add, srcv, Nat.le_refl, List.take_succ_cons, List.take_zero, and_self, if_true, Nat.reduceAdd, Nat.reduceLT, eq_self, h7]; rfl) | rfl, by first | (simp -dsimp only [↓SD, SP, ↓reduceIte, Nat.reduceEqDiff, ini, frz, rdAo, rd3o, rd2o, rdpo, rd1o, fnv, intv, VOp.dst, getRo, solEo, solo, solo1, allsz, List.all_cons, List.all_nil, Bool.and_true, beq_self_eq_true, List.length_cons, List.length_nil, Nat.zero_add, srcv, Nat.le_refl, List.take_succ_cons, List.take_zero, and_self, if_true, Nat.reduceAdd, Nat.reduceLT, eq_self, h8]; done) | (simp -dsimp only [↓SD, SP, ↓reduceIte, Nat.reduceEqDiff, ini, frz, rdAo, rd3o, rd2o, rdpo, rd1o, fnv, intv, VOp.dst, getRo, solEo, solo, solo1, allsz, List.all_cons, List.all_nil, Bool.and_true, beq_self_eq_true, List.length_cons, List.length_nil, Nat.zero_add, srcv, Nat.le_refl, List.take_succ_cons, List.take_zero, and_self, if_true, Nat.reduceAdd, Nat.reduceLT, eq_self, h8]; rfl) | rfl, by first | (simp -dsimp only [↓SD, SP, ↓reduceIte, Nat.reduceEqDiff, ini, frz, rdAo, rd3o, rd2o, rdpo, rd1o, fnv, intv, VOp.dst, getRo, solEo, solo, solo1, allsz, List.all_cons, List.all_nil, Bool.and_true, beq_self_eq_true, List.length_cons, List.length_nil, Nat.zero_add, srcv, Nat.le_refl, List.take_succ_cons, List.take_zero, and_self, if_true, Nat.reduceAdd, Nat.reduceLT, eq_self, Int.natCast_add, Int.natCast_one]; done) | (simp -dsimp only [↓SD, SP, ↓reduceIte, Nat.reduceEqDiff, ini, frz, rdAo, rd3o, rd2o, rdpo, rd1o, fnv, intv, VOp.dst, getRo, solEo, solo, solo1, allsz, List.all_cons, List.all_nil, Bool.and_true, beq_self_eq_true, List.length_cons, List.length_nil, Nat.zero_add, srcv, Nat.le_refl, List.take_succ_cons, List.take_zero, and_self, if_true, Nat.reduceAdd, Nat.reduceLT, eq_self, Int.natCast_add, Int.natCast_one]; rfl) | rfl, fun j hj g hg => ?_⟩
        rcases Nat.lt_or_ge j i with h' | h'
        · exact hok j h' g hg
        · obtain rfl : j = i := by omega
          rw [hget] at hg
          obtain rfl := Option.some.inj hg
          rw [hkk, e1, hrd, hprev]
          rfl
    · simp -dsimp only [↓SD, SP, ↓reduceIte, Nat.reduceEqDiff, ini, frz, rdAo, rd3o, rd2o, rdpo, rd1o, fnv, intv, VOp.dst, getRo, solEo, solo, solo1, allsz, List.all_cons, List.all_nil, Bool.and_true, beq_self_eq_true, List.length_cons, List.length_nil, Nat.zero_add, srcv, Nat.le_refl, List.take_succ_cons, List.take_zero, and_self, if_true, Nat.reduceAdd, Nat.reduceLT, eq_self, h0, h8, h9, Int.ofNat_lt, hi]
      exact hQ _ _ _ _ (.inl ⟨rfl, h0, by unfold headsOk; rw [allI_yes (fun j hj f hf => hok j (by omega) f hf), Bool.true_and]⟩)
theorem s_implRepoOk (x : RepoL) (ho : okR x) : OK Go.Proofs.Tryd.prog 11 [repoV x] (fun _ _ r => r = .bool (repoOk x)) := by
  refine fn_ok k11 rfl ?_
  have hco := fun c i h h' => s_commitOk c i h h'
  have hho := s_headsOk x.heads x.commits.length ho.2 ho.1.1
  generalize OK Go.Proofs.Tryd.prog = L at *
  intro lo
  have hlen := ho.1.1
  simp -dsimp only [↓SD, SP, ↓reduceIte, Nat.reduceEqDiff, ini, frz, rdAo, rd3o, rd2o, rdpo, rd1o, fnv, intv, VOp.dst, getRo, solEo, solo, solo1, allsz, List.all_cons, List.all_nil, Bool.and_true, beq_self_eq_true, List.length_cons, List.length_nil, Nat.zero_add, srcv, Nat.le_refl, List.take_succ_cons, List.take_zero, and_self, if_true, Nat.reduceAdd, Nat.reduceLT, eq_self, c11, sz_repo]
  refine bal_mk fun b hb => ?_
  simp -dsimp only [↓SD, SP, ↓reduceIte, Nat.reduceEqDiff, ini, frz, rdAo, rd3o, rd2o, rdpo, rd1o, fnv, intv, VOp.dst, getRo, solEo, solo, solo1, allsz, List.all_cons, List.all_nil, Bool.and_true, beq_self_eq_true, List.length_cons, List.length_nil, Nat.zero_add, srcv, Nat.le_refl, List.take_succ_cons, List.take_zero, and_self, if_true, Nat.reduceAdd, Nat.reduceLT, eq_self, fa_o, ↓ldv_f, ↓ldv_n, ↓stv_f, ↓stv_a, fldv, setf, bldv, small, Bool.true_and, List.getElem?_cons_zero, List.getElem?_cons_succ, List.set_cons_zero, List.set_cons_succ, Bool.false_eq_true, if_false, true_and, and_true, reduceCtorEq, false_implies, implies_true, forall_const, ↓fv_r0, l_lv]
  refine loop_rule (fun m E H n => ∃ i : Nat, m + i = x.commits.length ∧ E 1 = .optr 1 b 2 0 none ∧ E 6 = commitsV x.commits ∧ E 7 = .int .i64 x.commits.length ∧ E 8 = .int .i64 i ∧ H 1 = some ⟨b, 2, [repoV x], false, false, false⟩ ∧ ∀ j, j < i → j ≠ 16 ∧ ∀ c, x.commits[j]? = some c → commitOk j c = true)
    (fun e E H n => (e = .exit 0 ∧ E 1 = .optr 1 b 2 0 none ∧ H 1 = some ⟨b, 2, [repoV x], false, false, false⟩ ∧ repoOk x = headsOk x.heads x.commits.length) ∨ (e = .ret ∧ E 2 = .bool false ∧ repoOk x = false)) x.commits.length
    ⟨0, rfl, by first | (simp -dsimp only [↓SD, SP, ↓reduceIte, Nat.reduceEqDiff, ini, frz, rdAo, rd3o, rd2o, rdpo, rd1o, fnv, intv, VOp.dst, getRo, solEo, solo, solo1, allsz, List.all_cons, List.all_nil, Bool.and_true, beq_self_eq_true, List.length_cons, List.length_nil, Nat.zero_add, srcv, Nat.le_refl, List.take_succ_cons, List.take_zero, and_self, if_true, Nat.reduceAdd, Nat.reduceLT, eq_self]; done) | (simp -dsimp only [↓SD, SP, ↓reduceIte, Nat.reduceEqDiff, ini, frz, rdAo, rd3o, rd2o, rdpo, rd1o, fnv, intv, VOp.dst, getRo, solEo, solo, solo1, allsz, List.all_cons, List.all_nil, Bool.and_true, beq_self_eq_true, List.length_cons, List.length_nil, Nat.zero_add, srcv, Nat.le_refl, List.take_succ_cons, List.take_zero, and_self, if_true, Nat.reduceAdd, Nat.reduceLT, eq_self]; rfl) | rfl, by first | (simp -dsimp only [↓SD, SP, ↓reduceIte, Nat.reduceEqDiff, ini, frz, rdAo, rd3o, rd2o, rdpo, rd1o, fnv, intv, VOp.dst, getRo, solEo, solo, solo1, allsz, List.all_cons, List.all_nil, Bool.and_true, beq_self_eq_true, List.length_cons, List.length_nil, Nat.zero_add, srcv, Nat.le_refl, List.take_succ_cons, List.take_zero, and_self, if_true, Nat.reduceAdd, Nat.reduceLT, eq_self]; done) | (simp -dsimp only [↓SD, SP, ↓reduceIte, Nat.reduceEqDiff, ini, frz, rdAo, rd3o, rd2o, rdpo, rd1o, fnv, intv, VOp.dst, getRo, solEo, solo, solo1, allsz, List.all_cons, List.all_nil, Bool.and_true, beq_self_eq_true, List.length_cons, List.length_nil, Nat.zero_add, srcv, Nat.le_refl, List.take_succ_cons, List.take_zero, and_self, if_true, Nat.reduceAdd, Nat.reduceLT, eq_self]; rfl) | rfl, by first | (simp -dsimp only [↓SD, SP, ↓reduceIte, Nat.reduceEqDiff, ini, frz, rdAo, rd3o, rd2o, rdpo, rd1o, fnv, intv, VOp.dst, getRo, solEo, solo, solo1, allsz, List.all_cons, List.all_nil, Bool.and_true, beq_self_eq_true, List.length_cons, List.length_nil, Nat.zero_add, srcv, Nat.le_refl, List.take_succ_cons, List.take_zero, and_self, if_true, Nat.reduceAdd, Nat.reduceLT, eq_self]; done) | (simp -dsimp only [↓SD, SP, ↓reduceIte, Nat.reduceEqDiff, ini, frz, rdAo, rd3o, rd2o, rdpo, rd1o, fnv, intv, VOp.dst, getRo, solEo, solo, solo1, allsz, List.all_cons, List.all_nil, Bool.and_true, beq_self_eq_true, List.length_cons, List.length_nil, Nat.zero_add, srcv, Nat.le_refl, List.take_succ_cons, List.take_zero, and_self, if_true, Nat.reduceAdd, Nat.reduceLT, eq_self]; rfl) | rfl, by first | (simp -dsimp only [↓SD, SP, ↓reduceIte, Nat.reduceEqDiff, ini, frz, rdAo, rd3o, rd2o, rdpo, rd1o, fnv, intv, VOp.dst, getRo, solEo, solo, solo1, allsz, List.all_cons, List.all_nil, Bool.and_true, beq_self_eq_true, List.length_cons, List.length_nil, Nat.zero_add, srcv, Nat.le_refl, List.take_succ_cons, List.take_zero, and_self, if_true, Nat.reduceAdd, Nat.reduceLT, eq_self]; done) | (simp -dsimp only [↓SD, SP, ↓reduceIte, Nat.reduceEqDiff, ini, frz, rdAo, rd3o, rd2o, rdpo, rd1o, fnv, intv, VOp.dst, getRo, solEo, solo, solo1, allsz, List.all_cons, List.all_nil, Bool.and_true, beq_self_eq_true, List.length_cons, List.length_nil, Nat.zero_add, srcv, Nat.le_refl, List.take_succ_cons, List.take_zero, and_self, if_true, Nat.reduceAdd, Nat.reduceLT, eq_self]; rfl) | rfl, by first | (simp -dsimp only [↓SD, SP, ↓reduceIte, Nat.reduceEqDiff, ini, frz, rdAo, rd3o, rd2o, rdpo, rd1o, fnv, intv, VOp.dst, getRo, solEo, solo, solo1, allsz, List.all_cons, List.all_nil, Bool.and_true, beq_self_eq_true, List.length_cons, List.length_nil, Nat.zero_add, srcv, Nat.le_refl, List.take_succ_cons, List.take_zero, and_self, if_true, Nat.reduceAdd, Nat.reduceLT, eq_self]; done) | (simp -dsimp only [↓SD, SP, ↓reduceIte, Nat.reduceEqDiff, ini, frz, rdAo, rd3o, rd2o, rdpo, rd1o, fnv, intv, VOp.dst, getRo, solEo, solo, solo1, allsz, List.all_cons, List.all_nil, Bool.and_true, beq_self_eq_true, List.length_cons, List.length_nil, Nat.zero_add, srcv, Nat.le_refl, List.take_succ_cons, List.take_zero, and_self, if_true, Nat.reduceAdd, Nat.reduceLT, eq_self]; rfl) | rfl, fun j h => by omega⟩ ?_ ?_
  · rintro e E H n (⟨rfl, h1, hH, hp⟩ | ⟨rfl, h2, hp⟩)
    · simp -dsimp only [↓SD, SP, ↓reduceIte, Nat.reduceEqDiff, ini, frz, rdAo, rd3o, rd2o, rdpo, rd1o, fnv, intv, VOp.dst, getRo, solEo, solo, solo1, allsz, List.all_cons, List.all_nil, Bool.and_true, beq_self_eq_true, List.length_cons, List.length_nil, Nat.zero_add, srcv, Nat.le_refl, List.take_succ_cons, List.take_zero, and_self, if_true, Nat.reduceAdd, Nat.reduceLT, eq_self, fa_o, ↓ldv_f, ↓ldv_n, ↓stv_f, ↓stv_a, fldv, setf, bldv, small, Bool.true_and, List.getElem?_cons_zero, List.getElem?_cons_succ, List.set_cons_zero, List.set_cons_succ, Bool.false_eq_true, if_false, true_and, and_true, reduceCtorEq, false_implies, implies_true, forall_const, h1, hH, ↓fv_r0, ↓fv_r1, l_lv, ↓rd_lv, ↓r_any]
      refine call_rule hho ?_
      rintro lo1 hi1 r - - rfl
      simp -dsimp only [↓SD, SP, ↓reduceIte, Nat.reduceEqDiff, ini, frz, rdAo, rd3o, rd2o, rdpo, rd1o, fnv, intv, VOp.dst, getRo, solEo, solo, solo1, allsz, List.all_cons, List.all_nil, Bool.and_true, beq_self_eq_true, List.length_cons, List.length_nil, Nat.zero_add, srcv, Nat.le_refl, List.take_succ_cons, List.take_zero, and_self, if_true, Nat.reduceAdd, Nat.reduceLT, eq_self, ↓r_any, hp]
    · simp -dsimp only [↓SD, SP, ↓reduceIte, Nat.reduceEqDiff, ini, frz, rdAo, rd3o, rd2o, rdpo, rd1o, fnv, intv, VOp.dst, getRo, solEo, solo, solo1, allsz, List.all_cons, List.all_nil, Bool.and_true, beq_self_eq_true, List.length_cons, List.length_nil, Nat.zero_add, srcv, Nat.le_refl, List.take_succ_cons, List.take_zero, and_self, if_true, Nat.reduceAdd, Nat.reduceLT, eq_self, h2, hp]
  · rintro m E H n Q K ⟨i, hm, h1, h6, h7, h8, hH, hok⟩ hQ hK
    by_cases hi : i < x.commits.length
    · have hoc := ho.1.2 x.commits[i] (List.getElem_mem hi)
      have hget : x.commits[i]? = some x.commits[i] := List.getElem?_eq_getElem hi
      have hx := x_lv el_commit x.commits i hi
      generalize x.commits[i] = c at *
      simp -dsimp only [↓SD, SP, ↓reduceIte, Nat.reduceEqDiff, ini, frz, rdAo, rd3o, rd2o, rdpo, rd1o, fnv, intv, VOp.dst, getRo, solEo, solo, solo1, allsz, List.all_cons, List.all_nil, Bool.and_true, beq_self_eq_true, List.length_cons, List.length_nil, Nat.zero_add, srcv, Nat.le_refl, List.take_succ_cons, List.take_zero, and_self, if_true, Nat.reduceAdd, Nat.reduceLT, eq_self, h1, h6, h7, h8, Int.ofNat_lt, hi, hx, ↓d_lv el_commit, ↓r_any]
      refine bal_mk fun b1 hb1 => ?_
      by_cases h16 : (i : Int) = 16
      · simp -dsimp only [↓SD, SP, ↓reduceIte, Nat.reduceEqDiff, ini, frz, rdAo, rd3o, rd2o, rdpo, rd1o, fnv, intv, VOp.dst, getRo, solEo, solo, solo1, allsz, List.all_cons, List.all_nil, Bool.and_true, beq_self_eq_true, List.length_cons, List.length_nil, Nat.zero_add, srcv, Nat.le_refl, List.take_succ_cons, List.take_zero, and_self, if_true, Nat.reduceAdd, Nat.reduceLT, eq_self, fa_o, ↓ldv_f, ↓ldv_n, ↓stv_f, ↓stv_a, fldv, setf, bldv, small, Bool.true_and, List.getElem?_cons_zero, List.getElem?_cons_succ, List.set_cons_zero, List.set_cons_succ, Bool.false_eq_true, if_false, true_and, and_true, reduceCtorEq, false_implies, implies_true, forall_const, ↓stv_cm, fz_commit, sz_commit, h16, ↓r_any]
        refine hQ _ _ _ _ (.inr ⟨rfl, by first | (simp -dsimp only [↓SD, SP, ↓reduceIte, Nat.reduceEqDiff, ini, frz, rdAo, rd3o, rd2o, rdpo, rd1o, fnv, intv, VOp.dst, getRo, solEo, solo, solo1, allsz, List.all_cons, List.all_nil, Bool.and_true, beq_self_eq_true, List.length_cons, List.length_nil, Nat.zero_add, srcv, Nat.le_refl, List.take_succ_cons, List.take_zero, and_self, if_true, Nat.reduceAdd, Nat.reduceLT, eq_self]; done) | (simp -dsimp only [↓SD, SP, ↓reduceIte, Nat.reduceEqDiff, ini, frz, rdAo, rd3o, rd2o, rdpo, rd1o, fnv, intv, VOp.dst, getRo, solEo, solo, solo1, allsz, List.all_cons, List.all_nil, Bool.and_true, beq_self_eq_true, List.length_cons, List.length_nil, Nat.zero_add, srcv, Nat.le_refl, List.take_succ_cons, List.take_zero, and_self, if_true, Nat.reduceAdd, Nat.reduceLT, eq_self]; rfl) | rfl, ?_⟩)
        simp [repoOk, show ¬ x.commits.length ≤ 16 by omega]
      simp -dsimp only [↓SD, SP, ↓reduceIte, Nat.reduceEqDiff, ini, frz, rdAo, rd3o, rd2o, rdpo, rd1o, fnv, intv, VOp.dst, getRo, solEo, solo, solo1, allsz, List.all_cons, List.all_nil, Bool.and_true, beq_self_eq_true, List.length_cons, List.length_nil, Nat.zero_add, srcv, Nat.le_refl, List.take_succ_cons, List.take_zero, and_self, if_true, Nat.reduceAdd, Nat.reduceLT, eq_self, fa_o, ↓ldv_f, ↓ldv_n, ↓stv_f, ↓stv_a, fldv, setf, bldv, small, Bool.true_and, List.getElem?_cons_zero, List.getElem?_cons_succ, List.set_cons_zero, List.set_cons_succ, Bool.false_eq_true, if_false, true_and, and_true, reduceCtorEq, false_implies, implies_true, forall_const, ↓stv_cm, fz_commit, sz_commit, h16, ↓rd_commit, ↓r_any]
      refine call_rule (hco c i hoc (by omega)) ?_
      rintro lo1 hi1 r - - rfl
      cases e1 : commitOk i c
      · simp -dsimp only [↓SD, SP, ↓reduceIte, Nat.reduceEqDiff, ini, frz, rdAo, rd3o, rd2o, rdpo, rd1o, fnv, intv, VOp.dst, getRo, solEo, solo, solo1, allsz, List.all_cons, List.all_nil, Bool.and_true, beq_self_eq_true, List.length_cons, List.length_nil, Nat.zero_add, srcv, Nat.le_refl, List.take_succ_cons, List.take_zero, and_self, if_true, Nat.reduceAdd, Nat.reduceLT, eq_self, ↓r_any]
        refine hQ _ _ _ _ (.inr ⟨rfl, by first | (simp -dsimp only [↓SD, SP, ↓reduceIte, Nat.reduceEqDiff, ini, frz, rdAo, rd3o, rd2o, rdpo, rd1o, fnv, intv, VOp.dst, getRo, solEo, solo, solo1, allsz, List.all_cons, List.all_nil, Bool.and_true, beq_self_eq_true, List.length_cons, List.length_nil, Nat.zero_add, srcv, Nat.le_refl, List.take_succ_cons, List.take_zero, and_self, if_true, Nat.reduceAdd, Nat.reduceLT, eq_self]; done) | (simp -dsimp only [↓SD, SP, ↓reduceIte, Nat.reduceEqDiff, ini, frz, rdAo, rd3o, rd2o, rdpo, rd1o, fnv, intv, VOp.dst, getRo, solEo, solo, solo1, allsz, List.all_cons, List.all_nil, Bool.and_true, beq_self_eq_true, List.length_cons, List.length_nil, Nat.zero_add, srcv, Nat.le_refl, List.take_succ_cons, List.take_zero, and_self, if_true, Nat.reduceAdd, Nat.reduceLT, eq_self]; rfl) | rfl, ?_⟩)
        unfold repoOk
        rw [allI_no hget e1]
        rfl
      · simp -dsimp only [↓SD, SP, ↓reduceIte, Nat.reduceEqDiff, ini, frz, rdAo, rd3o, rd2o, rdpo, rd1o, fnv, intv, VOp.dst, getRo, solEo, solo, solo1, allsz, List.all_cons, List.all_nil, Bool.and_true, beq_self_eq_true, List.length_cons, List.length_nil, Nat.zero_add, srcv, Nat.le_refl, List.take_succ_cons, List.take_zero, and_self, if_true, Nat.reduceAdd, Nat.reduceLT, eq_self, ↓r_any, h8, wrap64 ((i : Int) + 1) (by omega)]
        refine hK (m - 1) _ _ _ (by omega) ⟨i + 1, by omega, by first | (simp -dsimp only [↓SD, SP, ↓reduceIte, Nat.reduceEqDiff, ini, frz, rdAo, rd3o, rd2o, rdpo, rd1o, fnv, intv, VOp.dst, getRo, solEo, solo, solo1, allsz, List.all_cons, List.all_nil, Bool.and_true, beq_self_eq_true, List.length_cons, List.length_nil, Nat.zero_add, srcv, Nat.le_refl, List.take_succ_cons, List.take_zero, and_self, if_true, Nat.reduceAdd, Nat.reduceLT, eq_self, h1]; done) | (simp -dsimp only [↓SD, SP, ↓reduceIte, Nat.reduceEqDiff, ini, frz, rdAo, rd3o, rd2o, rdpo, rd1o, fnv, intv, VOp.dst, getRo, solEo, solo, solo1, allsz, List.all_cons, List.all_nil, Bool.and_true, beq_self_eq_true, List.length_cons, List.length_nil, Nat.zero_add, srcv, Nat.le_refl, List.take_succ_cons, List.take_zero, and_self, if_true, Nat.reduceAdd, Nat.reduceLT, eq_self, h1]; rfl) | rfl, by first | (simp -dsimp only [↓SD, SP, ↓reduceIte, Nat.reduceEqDiff, ini, frz, rdAo, rd3o, rd2o, rdpo, rd1o, fnv, intv, VOp.dst, getRo, solEo, solo, solo1, allsz, List.all_cons, List.all_nil, Bool.and_true, beq_self_eq_true, List.length_cons, List.length_nil, Nat.zero_add, srcv, Nat.le_refl, List.take_succ_cons, List.take_zero, and_self, if_true, Nat.reduceAdd, Nat.reduceLT, eq_self, h6]; done) | (simp -dsimp only [↓SD, SP, ↓reduceIte, Nat.reduceEqDiff, ini, frz, rdAo, rd3o, rd2o, rdpo, rd1o, fnv, intv, VOp.dst, getRo, solEo, solo, solo1, allsz, List.all_cons, List.all_nil, Bool.and_true, beq_self_eq_true, List.length_cons, List.length_nil, Nat.zero_add, srcv, Nat.le_refl, List.take_succ_cons, List.take_zero, and_self, if_true, Nat.reduceAdd, Nat.reduceLT, eq_self, h6]; rfl) | rfl, by first | (simp -dsimp only [↓SD, SP, ↓reduceIte, Nat.reduceEqDiff, ini, frz, rdAo, rd3o, rd2o, rdpo, rd1o, fnv, intv, VOp.dst, getRo, solEo, solo, solo1, allsz, List.all_cons, List.all_nil, Bool.and_true, beq_self_eq_true, List.length_cons, List.length_nil, Nat.zero_add, srcv, Nat.le_refl, List.take_succ_cons, List.take_zero, and_self, if_true, Nat.reduceAdd, Nat.reduceLT, eq_self, h7]; done) | (simp -dsimp only [↓SD, SP, ↓reduceIte, Nat.reduceEqDiff, ini, frz, rdAo, rd3o, rd2o, rdpo, rd1o, fnv, intv, VOp.dst, getRo, solEo, solo, solo1, allsz, List.all_cons, List.all_nil, Bool.and_true, beq_self_eq_true, List.length_cons, List.length_nil, Nat.zero_add, srcv, Nat.le_refl, List.take_succ_cons, List.take_zero, and_self, if_true, Nat.reduceAdd, Nat.reduceLT, eq_self, h7]; rfl) | rfl, by first | (simp -dsimp only [↓SD, SP, ↓reduceIte, Nat.reduceEqDiff, ini, frz, rdAo, rd3o, rd2o, rdpo, rd1o, fnv, intv, VOp.dst, getRo, solEo, solo, solo1, allsz, List.all_cons, List.all_nil, Bool.and_true, beq_self_eq_true, List.length_cons, List.length_nil, Nat.zero_add, srcv, Nat.le_refl, List.take_succ_cons, List.take_zero, and_self, if_true, Nat.reduceAdd, Nat.reduceLT, eq_self, Int.natCast_add, Int.natCast_one]; done) | (simp -dsimp only [↓SD, SP, ↓reduceIte, Nat.reduceEqDiff, ini, frz, rdAo, rd3o, rd2o, rdpo, rd1o, fnv, intv, VOp.dst, getRo, solEo, solo, solo1, allsz, List.all_cons, List.all_nil, Bool.and_true, beq_self_eq_true, List.length_cons, List.length_nil, Nat.zero_add, srcv, Nat.le_refl, List.take_succ_cons, List.take_zero, and_self, if_true, Nat.reduceAdd, Nat.reduceLT, eq_self, Int.natCast_add, Int.natCast_one]; rfl) | rfl, by first | (simp -dsimp only [↓SD, SP, ↓reduceIte, Nat.reduceEqDiff, ini, frz, rdAo, rd3o, rd2o, rdpo, rd1o, fnv, intv, VOp.dst, getRo, solEo, solo, solo1, allsz, List.all_cons, List.all_nil, Bool.and_true, beq_self_eq_true, List.length_cons, List.length_nil, Nat.zero_add, srcv, Nat.le_refl, List.take_succ_cons, List.take_zero, and_self, if_true, Nat.reduceAdd, Nat.reduceLT, eq_self, hH]; done) | (simp -dsimp only [↓SD, SP, ↓reduceIte, Nat.reduceEqDiff, ini, frz, rdAo, rd3o, rd2o, rdpo, rd1o, fnv, intv, VOp.dst, getRo, solEo, solo, solo1, allsz, List.all_cons, List.all_nil, Bool.and_true, beq_self_eq_true, List.length_cons, List.length_nil, Nat.zero_add, srcv, Nat.le_refl, List.take_succ_cons, List.take_zero, and_self, if_true, Nat.reduceAdd, Nat.reduceLT, eq_self, hH]; rfl) | rfl, fun j hj => ?_⟩
        rcases Nat.lt_or_ge j i with h' | h'
        · exact hok j h'
        · obtain rfl : j = i := by omega
          refine ⟨by omega, fun c' hc' => ?_⟩
          rw [hget] at hc'
          obtain rfl := Option.some.inj hc'
          exact e1
    · simp -dsimp only [↓SD, SP, ↓reduceIte, Nat.reduceEqDiff, ini, frz, rdAo, rd3o, rd2o, rdpo, rd1o, fnv, intv, VOp.dst, getRo, solEo, solo, solo1, allsz, List.all_cons, List.all_nil, Bool.and_true, beq_self_eq_true, List.length_cons, List.length_nil, Nat.zero_add, srcv, Nat.le_refl, List.take_succ_cons, List.take_zero, and_self, if_true, Nat.reduceAdd, Nat.reduceLT, eq_self, h7, h8, Int.ofNat_lt, hi]
      refine hQ _ _ _ _ (.inl ⟨rfl, h1, hH, ?_⟩)
      have h16 : x.commits.length ≤ 16 := by
        rcases Nat.lt_or_ge 16 x.commits.length with h | h
        · exact absurd rfl (hok 16 (by omega)).1
        · exact h
      unfold repoOk
      rw [allI_yes (fun j hj f hf => (hok j (by omega)).2 f hf)]
      simp [h16]
end Go.AVM

/- RepoOk, the reference's. -/
set_option linter.unusedSimpArgs false
set_option linter.unusedVariables false
namespace Go.AVM
theorem repoOk_c {x : RepoL} (h : allI commitOk x.commits = false) : repoOk x = false := by
  unfold repoOk
  rw [h]
  rfl
theorem repoOk_h {x : RepoL} (h : allI (hOkI x.commits.length x.heads) x.heads = false) : repoOk x = false := by
  unfold repoOk headsOk
  rw [h]
  simp
theorem s_l7Ok (x : RepoL) (ho : okR x) : OK Go.Proofs.Tryd.prog 30 [repoV x] (fun _ _ r => r = .bool (repoOk x)) := by
  refine fn_ok k30 rfl ?_
  have hw := s_l1In
  have hnm := fun s h => s_l4Name s h
  have htr := fun t h => s_l4Ok t h
  generalize OK Go.Proofs.Tryd.prog = L at *
  intro lo
  have hlen := ho.1.1
  have hlen2 := ho.2.1
  simp -dsimp only [↓SD, SP, ↓reduceIte, Nat.reduceEqDiff, ini, frz, rdAo, rd3o, rd2o, rdpo, rd1o, fnv, intv, VOp.dst, getRo, solEo, solo, solo1, allsz, List.all_cons, List.all_nil, Bool.and_true, beq_self_eq_true, List.length_cons, List.length_nil, Nat.zero_add, srcv, Nat.le_refl, List.take_succ_cons, List.take_zero, and_self, if_true, Nat.reduceAdd, Nat.reduceLT, eq_self, c30, sz_repo]
  refine bal_mk fun b hb => ?_
  simp -dsimp only [↓SD, SP, ↓reduceIte, Nat.reduceEqDiff, ini, frz, rdAo, rd3o, rd2o, rdpo, rd1o, fnv, intv, VOp.dst, getRo, solEo, solo, solo1, allsz, List.all_cons, List.all_nil, Bool.and_true, beq_self_eq_true, List.length_cons, List.length_nil, Nat.zero_add, srcv, Nat.le_refl, List.take_succ_cons, List.take_zero, and_self, if_true, Nat.reduceAdd, Nat.reduceLT, eq_self]
  refine loop_rule (fun m E H n => ∃ i : Nat, m + i = x.commits.length ∧ E 1 = .optr 1 b 2 0 none ∧ E 3 = .int .i64 i ∧ H 1 = some ⟨b, 2, [repoV x], false, false, false⟩ ∧ ∀ j, j < i → ∀ c, x.commits[j]? = some c → commitOk j c = true)
    (fun e E H n => (e = .exit 0 ∧ E 1 = .optr 1 b 2 0 none ∧ H 1 = some ⟨b, 2, [repoV x], false, false, false⟩ ∧ allI commitOk x.commits = true) ∨ (e = .ret ∧ E 2 = .bool false ∧ repoOk x = false)) x.commits.length
    ⟨0, rfl, by first | (simp -dsimp only [↓SD, SP, ↓reduceIte, Nat.reduceEqDiff, ini, frz, rdAo, rd3o, rd2o, rdpo, rd1o, fnv, intv, VOp.dst, getRo, solEo, solo, solo1, allsz, List.all_cons, List.all_nil, Bool.and_true, beq_self_eq_true, List.length_cons, List.length_nil, Nat.zero_add, srcv, Nat.le_refl, List.take_succ_cons, List.take_zero, and_self, if_true, Nat.reduceAdd, Nat.reduceLT, eq_self]; done) | (simp -dsimp only [↓SD, SP, ↓reduceIte, Nat.reduceEqDiff, ini, frz, rdAo, rd3o, rd2o, rdpo, rd1o, fnv, intv, VOp.dst, getRo, solEo, solo, solo1, allsz, List.all_cons, List.all_nil, Bool.and_true, beq_self_eq_true, List.length_cons, List.length_nil, Nat.zero_add, srcv, Nat.le_refl, List.take_succ_cons, List.take_zero, and_self, if_true, Nat.reduceAdd, Nat.reduceLT, eq_self]; rfl) | rfl, by first | (simp -dsimp only [↓SD, SP, ↓reduceIte, Nat.reduceEqDiff, ini, frz, rdAo, rd3o, rd2o, rdpo, rd1o, fnv, intv, VOp.dst, getRo, solEo, solo, solo1, allsz, List.all_cons, List.all_nil, Bool.and_true, beq_self_eq_true, List.length_cons, List.length_nil, Nat.zero_add, srcv, Nat.le_refl, List.take_succ_cons, List.take_zero, and_self, if_true, Nat.reduceAdd, Nat.reduceLT, eq_self]; done) | (simp -dsimp only [↓SD, SP, ↓reduceIte, Nat.reduceEqDiff, ini, frz, rdAo, rd3o, rd2o, rdpo, rd1o, fnv, intv, VOp.dst, getRo, solEo, solo, solo1, allsz, List.all_cons, List.all_nil, Bool.and_true, beq_self_eq_true, List.length_cons, List.length_nil, Nat.zero_add, srcv, Nat.le_refl, List.take_succ_cons, List.take_zero, and_self, if_true, Nat.reduceAdd, Nat.reduceLT, eq_self]; rfl) | rfl, by first | (simp -dsimp only [↓SD, SP, ↓reduceIte, Nat.reduceEqDiff, ini, frz, rdAo, rd3o, rd2o, rdpo, rd1o, fnv, intv, VOp.dst, getRo, solEo, solo, solo1, allsz, List.all_cons, List.all_nil, Bool.and_true, beq_self_eq_true, List.length_cons, List.length_nil, Nat.zero_add, srcv, Nat.le_refl, List.take_succ_cons, List.take_zero, and_self, if_true, Nat.reduceAdd, Nat.reduceLT, eq_self]; done) | (simp -dsimp only [↓SD, SP, ↓reduceIte, Nat.reduceEqDiff, ini, frz, rdAo, rd3o, rd2o, rdpo, rd1o, fnv, intv, VOp.dst, getRo, solEo, solo, solo1, allsz, List.all_cons, List.all_nil, Bool.and_true, beq_self_eq_true, List.length_cons, List.length_nil, Nat.zero_add, srcv, Nat.le_refl, List.take_succ_cons, List.take_zero, and_self, if_true, Nat.reduceAdd, Nat.reduceLT, eq_self]; rfl) | rfl, fun j h => by omega⟩ ?_ ?_
  · rintro e E H n (⟨rfl, h1, hH, hcm⟩ | ⟨rfl, h2, hp⟩)
    · simp -dsimp only [↓SD, SP, ↓reduceIte, Nat.reduceEqDiff, ini, frz, rdAo, rd3o, rd2o, rdpo, rd1o, fnv, intv, VOp.dst, getRo, solEo, solo, solo1, allsz, List.all_cons, List.all_nil, Bool.and_true, beq_self_eq_true, List.length_cons, List.length_nil, Nat.zero_add, srcv, Nat.le_refl, List.take_succ_cons, List.take_zero, and_self, if_true, Nat.reduceAdd, Nat.reduceLT, eq_self]
      refine loop_rule (fun m E H n => ∃ i : Nat, m + i = x.heads.length ∧ E 1 = .optr 1 b 2 0 none ∧ E 6 = .int .i64 i ∧ H 1 = some ⟨b, 2, [repoV x], false, false, false⟩ ∧ ∀ j, j < i → ∀ c, x.heads[j]? = some c → hOkI x.commits.length x.heads j c = true)
        (fun e E H n => (e = .exit 4 ∧ E 1 = .optr 1 b 2 0 none ∧ H 1 = some ⟨b, 2, [repoV x], false, false, false⟩ ∧ allI (hOkI x.commits.length x.heads) x.heads = true) ∨ (e = .ret ∧ E 2 = .bool false ∧ repoOk x = false)) x.heads.length
        ⟨0, rfl, by first | (simp -dsimp only [↓SD, SP, ↓reduceIte, Nat.reduceEqDiff, ini, frz, rdAo, rd3o, rd2o, rdpo, rd1o, fnv, intv, VOp.dst, getRo, solEo, solo, solo1, allsz, List.all_cons, List.all_nil, Bool.and_true, beq_self_eq_true, List.length_cons, List.length_nil, Nat.zero_add, srcv, Nat.le_refl, List.take_succ_cons, List.take_zero, and_self, if_true, Nat.reduceAdd, Nat.reduceLT, eq_self, h1]; done) | (simp -dsimp only [↓SD, SP, ↓reduceIte, Nat.reduceEqDiff, ini, frz, rdAo, rd3o, rd2o, rdpo, rd1o, fnv, intv, VOp.dst, getRo, solEo, solo, solo1, allsz, List.all_cons, List.all_nil, Bool.and_true, beq_self_eq_true, List.length_cons, List.length_nil, Nat.zero_add, srcv, Nat.le_refl, List.take_succ_cons, List.take_zero, and_self, if_true, Nat.reduceAdd, Nat.reduceLT, eq_self, h1]; rfl) | rfl, by first | (simp -dsimp only [↓SD, SP, ↓reduceIte, Nat.reduceEqDiff, ini, frz, rdAo, rd3o, rd2o, rdpo, rd1o, fnv, intv, VOp.dst, getRo, solEo, solo, solo1, allsz, List.all_cons, List.all_nil, Bool.and_true, beq_self_eq_true, List.length_cons, List.length_nil, Nat.zero_add, srcv, Nat.le_refl, List.take_succ_cons, List.take_zero, and_self, if_true, Nat.reduceAdd, Nat.reduceLT, eq_self]; done) | (simp -dsimp only [↓SD, SP, ↓reduceIte, Nat.reduceEqDiff, ini, frz, rdAo, rd3o, rd2o, rdpo, rd1o, fnv, intv, VOp.dst, getRo, solEo, solo, solo1, allsz, List.all_cons, List.all_nil, Bool.and_true, beq_self_eq_true, List.length_cons, List.length_nil, Nat.zero_add, srcv, Nat.le_refl, List.take_succ_cons, List.take_zero, and_self, if_true, Nat.reduceAdd, Nat.reduceLT, eq_self]; rfl) | rfl, by first | (simp -dsimp only [↓SD, SP, ↓reduceIte, Nat.reduceEqDiff, ini, frz, rdAo, rd3o, rd2o, rdpo, rd1o, fnv, intv, VOp.dst, getRo, solEo, solo, solo1, allsz, List.all_cons, List.all_nil, Bool.and_true, beq_self_eq_true, List.length_cons, List.length_nil, Nat.zero_add, srcv, Nat.le_refl, List.take_succ_cons, List.take_zero, and_self, if_true, Nat.reduceAdd, Nat.reduceLT, eq_self, hH]; done) | (simp -dsimp only [↓SD, SP, ↓reduceIte, Nat.reduceEqDiff, ini, frz, rdAo, rd3o, rd2o, rdpo, rd1o, fnv, intv, VOp.dst, getRo, solEo, solo, solo1, allsz, List.all_cons, List.all_nil, Bool.and_true, beq_self_eq_true, List.length_cons, List.length_nil, Nat.zero_add, srcv, Nat.le_refl, List.take_succ_cons, List.take_zero, and_self, if_true, Nat.reduceAdd, Nat.reduceLT, eq_self, hH]; rfl) | rfl, fun j h => by omega⟩ ?_ ?_
      · rintro e E H n (⟨rfl, h1, hH, hhd⟩ | ⟨rfl, h2, hp⟩)
        · by_cases h16 : (x.commits.length : Int) ≤ 16
          · by_cases h5 : (x.heads.length : Int) ≤ 5
            · simp -dsimp only [↓SD, SP, ↓reduceIte, Nat.reduceEqDiff, ini, frz, rdAo, rd3o, rd2o, rdpo, rd1o, fnv, intv, VOp.dst, getRo, solEo, solo, solo1, allsz, List.all_cons, List.all_nil, Bool.and_true, beq_self_eq_true, List.length_cons, List.length_nil, Nat.zero_add, srcv, Nat.le_refl, List.take_succ_cons, List.take_zero, and_self, if_true, Nat.reduceAdd, Nat.reduceLT, eq_self, fa_o, ↓ldv_f, ↓ldv_n, ↓stv_f, ↓stv_a, fldv, setf, bldv, small, Bool.true_and, List.getElem?_cons_zero, List.getElem?_cons_succ, List.set_cons_zero, List.set_cons_succ, Bool.false_eq_true, if_false, true_and, and_true, reduceCtorEq, false_implies, implies_true, forall_const, h1, hH, ↓fv_r0, ↓fv_r1, l_lv, h16, h5]
              simp [repoOk, headsOk, hcm, hhd, show x.commits.length ≤ 16 by omega, show x.heads.length ≤ 5 by omega]
            · simp -dsimp only [↓SD, SP, ↓reduceIte, Nat.reduceEqDiff, ini, frz, rdAo, rd3o, rd2o, rdpo, rd1o, fnv, intv, VOp.dst, getRo, solEo, solo, solo1, allsz, List.all_cons, List.all_nil, Bool.and_true, beq_self_eq_true, List.length_cons, List.length_nil, Nat.zero_add, srcv, Nat.le_refl, List.take_succ_cons, List.take_zero, and_self, if_true, Nat.reduceAdd, Nat.reduceLT, eq_self, fa_o, ↓ldv_f, ↓ldv_n, ↓stv_f, ↓stv_a, fldv, setf, bldv, small, Bool.true_and, List.getElem?_cons_zero, List.getElem?_cons_succ, List.set_cons_zero, List.set_cons_succ, Bool.false_eq_true, if_false, true_and, and_true, reduceCtorEq, false_implies, implies_true, forall_const, h1, hH, ↓fv_r0, ↓fv_r1, l_lv, h16, h5]
              simp [repoOk, headsOk, hcm, hhd, show x.commits.length ≤ 16 by omega, show ¬ x.heads.length ≤ 5 by omega]
          · simp -dsimp only [↓SD, SP, ↓reduceIte, Nat.reduceEqDiff, ini, frz, rdAo, rd3o, rd2o, rdpo, rd1o, fnv, intv, VOp.dst, getRo, solEo, solo, solo1, allsz, List.all_cons, List.all_nil, Bool.and_true, beq_self_eq_true, List.length_cons, List.length_nil, Nat.zero_add, srcv, Nat.le_refl, List.take_succ_cons, List.take_zero, and_self, if_true, Nat.reduceAdd, Nat.reduceLT, eq_self, fa_o, ↓ldv_f, ↓ldv_n, ↓stv_f, ↓stv_a, fldv, setf, bldv, small, Bool.true_and, List.getElem?_cons_zero, List.getElem?_cons_succ, List.set_cons_zero, List.set_cons_succ, Bool.false_eq_true, if_false, true_and, and_true, reduceCtorEq, false_implies, implies_true, forall_const, h1, hH, ↓fv_r0, ↓fv_r1, l_lv, h16]
            simp [repoOk, headsOk, hcm, hhd, show ¬ x.commits.length ≤ 16 by omega]
        · simp -dsimp only [↓SD, SP, ↓reduceIte, Nat.reduceEqDiff, ini, frz, rdAo, rd3o, rd2o, rdpo, rd1o, fnv, intv, VOp.dst, getRo, solEo, solo, solo1, allsz, List.all_cons, List.all_nil, Bool.and_true, beq_self_eq_true, List.length_cons, List.length_nil, Nat.zero_add, srcv, Nat.le_refl, List.take_succ_cons, List.take_zero, and_self, if_true, Nat.reduceAdd, Nat.reduceLT, eq_self, h2, hp]
      · rintro m E H n Q K ⟨i, hm, h1, h6, hH, hok⟩ hQ hK
        by_cases hi : i < x.heads.length
        · have hoh := ho.2.2 x.heads[i] (List.getElem_mem hi)
          have hget : x.heads[i]? = some x.heads[i] := List.getElem?_eq_getElem hi
          have no : hOkI x.commits.length x.heads i x.heads[i] = false → ∀ E H n, E 2 = .bool false → Q .ret E H n := fun h E H n h2 => hQ _ _ _ _ (.inr ⟨rfl, h2, repoOk_h (allI_no hget h)⟩)
          have hkk : hOkI x.commits.length x.heads i x.heads[i] = (nmOk x.heads[i].name && (decide (0 ≤ x.heads[i].at_ ∧ x.heads[i].at_ ≤ (x.commits.length : Int) - 1) && prevH x.heads i x.heads[i])) := rfl
          have hx := x_lv el_head x.heads i hi
          generalize x.heads[i] = f at *
          simp -dsimp only [↓SD, SP, ↓reduceIte, Nat.reduceEqDiff, ini, frz, rdAo, rd3o, rd2o, rdpo, rd1o, fnv, intv, VOp.dst, getRo, solEo, solo, solo1, allsz, List.all_cons, List.all_nil, Bool.and_true, beq_self_eq_true, List.length_cons, List.length_nil, Nat.zero_add, srcv, Nat.le_refl, List.take_succ_cons, List.take_zero, and_self, if_true, Nat.reduceAdd, Nat.reduceLT, eq_self, fa_o, ↓ldv_f, ↓ldv_n, ↓stv_f, ↓stv_a, fldv, setf, bldv, small, Bool.true_and, List.getElem?_cons_zero, List.getElem?_cons_succ, List.set_cons_zero, List.set_cons_succ, Bool.false_eq_true, if_false, true_and, and_true, reduceCtorEq, false_implies, implies_true, forall_const, h1, h6, hH, ↓fv_r1, l_lv, Int.ofNat_lt, hi, hx, fa_d0, ↓r_any]
          refine call_rule (hnm _ hoh) ?_
          rintro lo1 hi1 r - - rfl
          cases e1 : nmOk f.name
          · simp -dsimp only [↓SD, SP, ↓reduceIte, Nat.reduceEqDiff, ini, frz, rdAo, rd3o, rd2o, rdpo, rd1o, fnv, intv, VOp.dst, getRo, solEo, solo, solo1, allsz, List.all_cons, List.all_nil, Bool.and_true, beq_self_eq_true, List.length_cons, List.length_nil, Nat.zero_add, srcv, Nat.le_refl, List.take_succ_cons, List.take_zero, and_self, if_true, Nat.reduceAdd, Nat.reduceLT, eq_self, fa_o, ↓ldv_f, ↓ldv_n, ↓stv_f, ↓stv_a, fldv, setf, bldv, small, Bool.true_and, List.getElem?_cons_zero, List.getElem?_cons_succ, List.set_cons_zero, List.set_cons_succ, Bool.false_eq_true, if_false, true_and, and_true, reduceCtorEq, false_implies, implies_true, forall_const, ↓r_any]
            refine no (by rw [hkk, e1]; rfl) _ _ _ ?_
            simp -dsimp only [↓SD, SP, ↓reduceIte, Nat.reduceEqDiff, ini, frz, rdAo, rd3o, rd2o, rdpo, rd1o, fnv, intv, VOp.dst, getRo, solEo, solo, solo1, allsz, List.all_cons, List.all_nil, Bool.and_true, beq_self_eq_true, List.length_cons, List.length_nil, Nat.zero_add, srcv, Nat.le_refl, List.take_succ_cons, List.take_zero, and_self, if_true, Nat.reduceAdd, Nat.reduceLT, eq_self]
          simp -dsimp only [↓SD, SP, ↓reduceIte, Nat.reduceEqDiff, ini, frz, rdAo, rd3o, rd2o, rdpo, rd1o, fnv, intv, VOp.dst, getRo, solEo, solo, solo1, allsz, List.all_cons, List.all_nil, Bool.and_true, beq_self_eq_true, List.length_cons, List.length_nil, Nat.zero_add, srcv, Nat.le_refl, List.take_succ_cons, List.take_zero, and_self, if_true, Nat.reduceAdd, Nat.reduceLT, eq_self, fa_o, ↓ldv_f, ↓ldv_n, ↓stv_f, ↓stv_a, fldv, setf, bldv, small, Bool.true_and, List.getElem?_cons_zero, List.getElem?_cons_succ, List.set_cons_zero, List.set_cons_succ, Bool.false_eq_true, if_false, true_and, and_true, reduceCtorEq, false_implies, implies_true, forall_const, h1, h6, hH, ↓fv_r0, ↓fv_r1, l_lv, hx, fa_d1, ↓r_any, wrap64 ((x.commits.length : Int) - 1) (by omega)]
          refine call_rule (hw f.at_ 0 ((x.commits.length : Int) - 1)) ?_
          rintro lo2 hi2 r - - rfl
          by_cases hr : 0 ≤ f.at_ ∧ f.at_ ≤ (x.commits.length : Int) - 1
          case neg =>
            simp -dsimp only [↓SD, SP, ↓reduceIte, Nat.reduceEqDiff, ini, frz, rdAo, rd3o, rd2o, rdpo, rd1o, fnv, intv, VOp.dst, getRo, solEo, solo, solo1, allsz, List.all_cons, List.all_nil, Bool.and_true, beq_self_eq_true, List.length_cons, List.length_nil, Nat.zero_add, srcv, Nat.le_refl, List.take_succ_cons, List.take_zero, and_self, if_true, Nat.reduceAdd, Nat.reduceLT, eq_self, fa_o, ↓ldv_f, ↓ldv_n, ↓stv_f, ↓stv_a, fldv, setf, bldv, small, Bool.true_and, List.getElem?_cons_zero, List.getElem?_cons_succ, List.set_cons_zero, List.set_cons_succ, Bool.false_eq_true, if_false, true_and, and_true, reduceCtorEq, false_implies, implies_true, forall_const, hr, ↓r_any, decide_false, Bool.not_false]
            refine no (by rw [hkk, e1]; simp [hr]) _ _ _ ?_
            simp -dsimp only [↓SD, SP, ↓reduceIte, Nat.reduceEqDiff, ini, frz, rdAo, rd3o, rd2o, rdpo, rd1o, fnv, intv, VOp.dst, getRo, solEo, solo, solo1, allsz, List.all_cons, List.all_nil, Bool.and_true, beq_self_eq_true, List.length_cons, List.length_nil, Nat.zero_add, srcv, Nat.le_refl, List.take_succ_cons, List.take_zero, and_self, if_true, Nat.reduceAdd, Nat.reduceLT, eq_self]
          have hrd : decide (0 ≤ f.at_ ∧ f.at_ ≤ (x.commits.length : Int) - 1) = true := decide_eq_true hr
          by_cases hi0 : (0 : Int) < i
          · have hj : i - 1 < x.heads.length := by omega
            have hprev : prevH x.heads i f = sLt x.heads[i - 1].name f.name := by
              simp only [prevH, List.getElem?_eq_getElem hj, Option.map_some, Option.getD_some, show ¬ i = 0 by omega, decide_false, Bool.false_or]
            have hx1 := x_lv el_head x.heads (i - 1) hj
            cases e3 : sLt x.heads[i - 1].name f.name
            · simp -dsimp only [↓SD, SP, ↓reduceIte, Nat.reduceEqDiff, ini, frz, rdAo, rd3o, rd2o, rdpo, rd1o, fnv, intv, VOp.dst, getRo, solEo, solo, solo1, allsz, List.all_cons, List.all_nil, Bool.and_true, beq_self_eq_true, List.length_cons, List.length_nil, Nat.zero_add, srcv, Nat.le_refl, List.take_succ_cons, List.take_zero, and_self, if_true, Nat.reduceAdd, Nat.reduceLT, eq_self, fa_o, ↓ldv_f, ↓ldv_n, ↓stv_f, ↓stv_a, fldv, setf, bldv, small, Bool.true_and, List.getElem?_cons_zero, List.getElem?_cons_succ, List.set_cons_zero, List.set_cons_succ, Bool.false_eq_true, if_false, true_and, and_true, reduceCtorEq, false_implies, implies_true, forall_const, hr, h1, h6, hH, ↓fv_r1, hi0, wrap64 ((i : Int) - 1) (by omega), show (i : Int) - 1 = ((i - 1 : Nat) : Int) by omega, wrap64 ((i - 1 : Nat) : Int) (by omega), hx, hx1, fa_d0, v_sleq, e3, ↓r_any, decide_true, Bool.not_true, Bool.not_false]
              refine no (by rw [hkk, e1, hrd, hprev, e3]; rfl) _ _ _ ?_
              simp -dsimp only [↓SD, SP, ↓reduceIte, Nat.reduceEqDiff, ini, frz, rdAo, rd3o, rd2o, rdpo, rd1o, fnv, intv, VOp.dst, getRo, solEo, solo, solo1, allsz, List.all_cons, List.all_nil, Bool.and_true, beq_self_eq_true, List.length_cons, List.length_nil, Nat.zero_add, srcv, Nat.le_refl, List.take_succ_cons, List.take_zero, and_self, if_true, Nat.reduceAdd, Nat.reduceLT, eq_self]
            · simp -dsimp only [↓SD, SP, ↓reduceIte, Nat.reduceEqDiff, ini, frz, rdAo, rd3o, rd2o, rdpo, rd1o, fnv, intv, VOp.dst, getRo, solEo, solo, solo1, allsz, List.all_cons, List.all_nil, Bool.and_true, beq_self_eq_true, List.length_cons, List.length_nil, Nat.zero_add, srcv, Nat.le_refl, List.take_succ_cons, List.take_zero, and_self, if_true, Nat.reduceAdd, Nat.reduceLT, eq_self, fa_o, ↓ldv_f, ↓ldv_n, ↓stv_f, ↓stv_a, fldv, setf, bldv, small, Bool.true_and, List.getElem?_cons_zero, List.getElem?_cons_succ, List.set_cons_zero, List.set_cons_succ, Bool.false_eq_true, if_false, true_and, and_true, reduceCtorEq, false_implies, implies_true, forall_const, hr, h1, h6, hH, ↓fv_r1, hi0, wrap64 ((i : Int) - 1) (by omega), show (i : Int) - 1 = ((i - 1 : Nat) : Int) by omega, wrap64 ((i - 1 : Nat) : Int) (by omega), hx, hx1, fa_d0, v_sleq, e3, ↓r_any, decide_true, Bool.not_true, wrap64 ((i : Int) + 1) (by omega)]
              refine hK (m - 1) _ _ _ (by omega) ⟨i + 1, by omega, by first | (simp -dsimp only [↓SD, SP, ↓reduceIte, Nat.reduceEqDiff, ini, frz, rdAo, rd3o, rd2o, rdpo, rd1o, fnv, intv, VOp.dst, getRo, solEo, solo, solo1, allsz, List.all_cons, List.all_nil, Bool.and_true, beq_self_eq_true, List.length_cons, List.length_nil, Nat.zero_add, srcv, Nat.le_refl, List.take_succ_cons, List.take_zero, and_self, if_true, Nat.reduceAdd, Nat.reduceLT, eq_self, h1]; done) | (simp -dsimp only [↓SD, SP, ↓reduceIte, Nat.reduceEqDiff, ini, frz, rdAo, rd3o, rd2o, rdpo, rd1o, fnv, intv, VOp.dst, getRo, solEo, solo, solo1, allsz, List.all_cons, List.all_nil, Bool.and_true, beq_self_eq_true, List.length_cons, List.length_nil, Nat.zero_add, srcv, Nat.le_refl, List.take_succ_cons, List.take_zero, and_self, if_true, Nat.reduceAdd, Nat.reduceLT, eq_self, h1]; rfl) | rfl, by first | (simp -dsimp only [↓SD, SP, ↓reduceIte, Nat.reduceEqDiff, ini, frz, rdAo, rd3o, rd2o, rdpo, rd1o, fnv, intv, VOp.dst, getRo, solEo, solo, solo1, allsz, List.all_cons, List.all_nil, Bool.and_true, beq_self_eq_true, List.length_cons, List.length_nil, Nat.zero_add, srcv, Nat.le_refl, List.take_succ_cons, List.take_zero, and_self, if_true, Nat.reduceAdd, Nat.reduceLT, eq_self, Int.natCast_add, Int.natCast_one]; done) | (simp -dsimp only [↓SD, SP, ↓reduceIte, Nat.reduceEqDiff, ini, frz, rdAo, rd3o, rd2o, rdpo, rd1o, fnv, intv, VOp.dst, getRo, solEo, solo, solo1, allsz, List.all_cons, List.all_nil, Bool.and_true, beq_self_eq_true, List.length_cons, List.length_nil, Nat.zero_add, srcv, Nat.le_refl, List.take_succ_cons, List.take_zero, and_self, if_true, Nat.reduceAdd, Nat.reduceLT, eq_self, Int.natCast_add, Int.natCast_one]; rfl) | rfl, by first | (simp -dsimp only [↓SD, SP, ↓reduceIte, Nat.reduceEqDiff, ini, frz, rdAo, rd3o, rd2o, rdpo, rd1o, fnv, intv, VOp.dst, getRo, solEo, solo, solo1, allsz, List.all_cons, List.all_nil, Bool.and_true, beq_self_eq_true, List.length_cons, List.length_nil, Nat.zero_add, srcv, Nat.le_refl, List.take_succ_cons, List.take_zero, and_self, if_true, Nat.reduceAdd, Nat.reduceLT, eq_self, hH]; done) | (simp -dsimp only [↓SD, SP, ↓reduceIte, Nat.reduceEqDiff, ini, frz, rdAo, rd3o, rd2o, rdpo, rd1o, fnv, intv, VOp.dst, getRo, solEo, solo, solo1, allsz, List.all_cons, List.all_nil, Bool.and_true, beq_self_eq_true, List.length_cons, List.length_nil, Nat.zero_add, srcv, Nat.le_refl, List.take_succ_cons, List.take_zero, and_self, if_true, Nat.reduceAdd, Nat.reduceLT, eq_self, hH]; rfl) | rfl, fun j hj g hg => ?_⟩
              rcases Nat.lt_or_ge j i with h' | h'
              · exact hok j h' g hg
              · obtain rfl : j = i := by omega
                rw [hget] at hg
                obtain rfl := Option.some.inj hg
                rw [hkk, e1, hrd, hprev, e3]
                rfl
          · have hprev : prevH x.heads i f = true := by
              simp only [prevH, show i = 0 by omega, decide_true, Bool.true_or]
            simp -dsimp only [↓SD, SP, ↓reduceIte, Nat.reduceEqDiff, ini, frz, rdAo, rd3o, rd2o, rdpo, rd1o, fnv, intv, VOp.dst, getRo, solEo, solo, solo1, allsz, List.all_cons, List.all_nil, Bool.and_true, beq_self_eq_true, List.length_cons, List.length_nil, Nat.zero_add, srcv, Nat.le_refl, List.take_succ_cons, List.take_zero, and_self, if_true, Nat.reduceAdd, Nat.reduceLT, eq_self, fa_o, ↓ldv_f, ↓ldv_n, ↓stv_f, ↓stv_a, fldv, setf, bldv, small, Bool.true_and, List.getElem?_cons_zero, List.getElem?_cons_succ, List.set_cons_zero, List.set_cons_succ, Bool.false_eq_true, if_false, true_and, and_true, reduceCtorEq, false_implies, implies_true, forall_const, hr, h1, h6, hi0, ↓r_any, decide_true, Bool.not_true, wrap64 ((i : Int) + 1) (by omega)]
            refine hK (m - 1) _ _ _ (by omega) ⟨i + 1, by omega, by first | (simp -dsimp only [↓SD, SP, ↓reduceIte, Nat.reduceEqDiff, ini, frz, rdAo, rd3o, rd2o, rdpo, rd1o, fnv, intv, VOp.dst, getRo, solEo, solo, solo1, allsz, List.all_cons, List.all_nil, Bool.and_true, beq_self_eq_true, List.length_cons, List.length_nil, Nat.zero_add, srcv, Nat.le_refl, List.take_succ_cons, List.take_zero, and_self, if_true, Nat.reduceAdd, Nat.reduceLT, eq_self, h1]; done) | (simp -dsimp only [↓SD, SP, ↓reduceIte, Nat.reduceEqDiff, ini, frz, rdAo, rd3o, rd2o, rdpo, rd1o, fnv, intv, VOp.dst, getRo, solEo, solo, solo1, allsz, List.all_cons, List.all_nil, Bool.and_true, beq_self_eq_true, List.length_cons, List.length_nil, Nat.zero_add, srcv, Nat.le_refl, List.take_succ_cons, List.take_zero, and_self, if_true, Nat.reduceAdd, Nat.reduceLT, eq_self, h1]; rfl) | rfl, by first | (simp -dsimp only [↓SD, SP, ↓reduceIte, Nat.reduceEqDiff, ini, frz, rdAo, rd3o, rd2o, rdpo, rd1o, fnv, intv, VOp.dst, getRo, solEo, solo, solo1, allsz, List.all_cons, List.all_nil, Bool.and_true, beq_self_eq_true, List.length_cons, List.length_nil, Nat.zero_add, srcv, Nat.le_refl, List.take_succ_cons, List.take_zero, and_self, if_true, Nat.reduceAdd, Nat.reduceLT, eq_self, Int.natCast_add, Int.natCast_one]; done) | (simp -dsimp only [↓SD, SP, ↓reduceIte, Nat.reduceEqDiff, ini, frz, rdAo, rd3o, rd2o, rdpo, rd1o, fnv, intv, VOp.dst, getRo, solEo, solo, solo1, allsz, List.all_cons, List.all_nil, Bool.and_true, beq_self_eq_true, List.length_cons, List.length_nil, Nat.zero_add, srcv, Nat.le_refl, List.take_succ_cons, List.take_zero, and_self, if_true, Nat.reduceAdd, Nat.reduceLT, eq_self, Int.natCast_add, Int.natCast_one]; rfl) | rfl, by first | (simp -dsimp only [↓SD, SP, ↓reduceIte, Nat.reduceEqDiff, ini, frz, rdAo, rd3o, rd2o, rdpo, rd1o, fnv, intv, VOp.dst, getRo, solEo, solo, solo1, allsz, List.all_cons, List.all_nil, Bool.and_true, beq_self_eq_true, List.length_cons, List.length_nil, Nat.zero_add, srcv, Nat.le_refl, List.take_succ_cons, List.take_zero, and_self, if_true, Nat.reduceAdd, Nat.reduceLT, eq_self, hH]; done) | (simp -dsimp only [↓SD, SP, ↓reduceIte, Nat.reduceEqDiff, ini, frz, rdAo, rd3o, rd2o, rdpo, rd1o, fnv, intv, VOp.dst, getRo, solEo, solo, solo1, allsz, List.all_cons, List.all_nil, Bool.and_true, beq_self_eq_true, List.length_cons, List.length_nil, Nat.zero_add, srcv, Nat.le_refl, List.take_succ_cons, List.take_zero, and_self, if_true, Nat.reduceAdd, Nat.reduceLT, eq_self, hH]; rfl) | rfl, fun j hj g hg => ?_⟩
            rcases Nat.lt_or_ge j i with h' | h'
            · exact hok j h' g hg
            · obtain rfl : j = i := by omega
              rw [hget] at hg
              obtain rfl := Option.some.inj hg
              rw [hkk, e1, hrd, hprev]
              rfl
        · simp -dsimp only [↓SD, SP, ↓reduceIte, Nat.reduceEqDiff, ini, frz, rdAo, rd3o, rd2o, rdpo, rd1o, fnv, intv, VOp.dst, getRo, solEo, solo, solo1, allsz, List.all_cons, List.all_nil, Bool.and_true, beq_self_eq_true, List.length_cons, List.length_nil, Nat.zero_add, srcv, Nat.le_refl, List.take_succ_cons, List.take_zero, and_self, if_true, Nat.reduceAdd, Nat.reduceLT, eq_self, fa_o, ↓ldv_f, ↓ldv_n, ↓stv_f, ↓stv_a, fldv, setf, bldv, small, Bool.true_and, List.getElem?_cons_zero, List.getElem?_cons_succ, List.set_cons_zero, List.set_cons_succ, Bool.false_eq_true, if_false, true_and, and_true, reduceCtorEq, false_implies, implies_true, forall_const, h1, h6, hH, ↓fv_r1, l_lv, Int.ofNat_lt, hi]
          exact hQ _ _ _ _ (.inl ⟨rfl, h1, hH, allI_yes fun j hj f hf => hok j (by omega) f hf⟩)
    · simp -dsimp only [↓SD, SP, ↓reduceIte, Nat.reduceEqDiff, ini, frz, rdAo, rd3o, rd2o, rdpo, rd1o, fnv, intv, VOp.dst, getRo, solEo, solo, solo1, allsz, List.all_cons, List.all_nil, Bool.and_true, beq_self_eq_true, List.length_cons, List.length_nil, Nat.zero_add, srcv, Nat.le_refl, List.take_succ_cons, List.take_zero, and_self, if_true, Nat.reduceAdd, Nat.reduceLT, eq_self, h2, hp]
  · rintro m E H n Q K ⟨i, hm, h1, h3, hH, hok⟩ hQ hK
    by_cases hi : i < x.commits.length
    · have hoc := ho.1.2 x.commits[i] (List.getElem_mem hi)
      have hget : x.commits[i]? = some x.commits[i] := List.getElem?_eq_getElem hi
      have hx := x_lv el_commit x.commits i hi
      generalize x.commits[i] = c at *
      have no : commitOk i c = false → ∀ E H n, E 2 = .bool false → Q .ret E H n := fun h E H n h2 => hQ _ _ _ _ (.inr ⟨rfl, h2, repoOk_c (allI_no hget h)⟩)
      have hcp := hoc.1
      simp -dsimp only [↓SD, SP, ↓reduceIte, Nat.reduceEqDiff, ini, frz, rdAo, rd3o, rd2o, rdpo, rd1o, fnv, intv, VOp.dst, getRo, solEo, solo, solo1, allsz, List.all_cons, List.all_nil, Bool.and_true, beq_self_eq_true, List.length_cons, List.length_nil, Nat.zero_add, srcv, Nat.le_refl, List.take_succ_cons, List.take_zero, and_self, if_true, Nat.reduceAdd, Nat.reduceLT, eq_self, fa_o, ↓ldv_f, ↓ldv_n, ↓stv_f, ↓stv_a, fldv, setf, bldv, small, Bool.true_and, List.getElem?_cons_zero, List.getElem?_cons_succ, List.set_cons_zero, List.set_cons_succ, Bool.false_eq_true, if_false, true_and, and_true, reduceCtorEq, false_implies, implies_true, forall_const, h1, h3, hH, ↓fv_r0, l_lv, Int.ofNat_lt, hi, hx, ↓d_lv el_commit, ↓r_any]
      refine bal_mk fun b1 hb1 => ?_
      simp -dsimp only [↓SD, SP, ↓reduceIte, Nat.reduceEqDiff, ini, frz, rdAo, rd3o, rd2o, rdpo, rd1o, fnv, intv, VOp.dst, getRo, solEo, solo, solo1, allsz, List.all_cons, List.all_nil, Bool.and_true, beq_self_eq_true, List.length_cons, List.length_nil, Nat.zero_add, srcv, Nat.le_refl, List.take_succ_cons, List.take_zero, and_self, if_true, Nat.reduceAdd, Nat.reduceLT, eq_self, fa_o, ↓ldv_f, ↓ldv_n, ↓stv_f, ↓stv_a, fldv, setf, bldv, small, Bool.true_and, List.getElem?_cons_zero, List.getElem?_cons_succ, List.set_cons_zero, List.set_cons_succ, Bool.false_eq_true, if_false, true_and, and_true, reduceCtorEq, false_implies, implies_true, forall_const, ↓stv_cm, fz_commit, sz_commit, ↓r_any]
      refine loop_rule (fun m E H n => ∃ k : Nat, m + k = c.parents.length ∧ E 1 = .optr 1 b 2 0 none ∧ E 3 = .int .i64 i ∧ H 1 = some ⟨b, 2, [repoV x], false, false, false⟩ ∧ E 4 = .optr 4 b1 3 0 none ∧ H 4 = some ⟨b1, 3, [commitV c], false, false, false⟩ ∧ E 5 = .int .i64 k ∧ ∀ j, j < k → ∀ p, c.parents[j]? = some p → parS i c.parents j p = true)
        (fun e E H n => (e = .exit 2 ∧ E 1 = .optr 1 b 2 0 none ∧ E 3 = .int .i64 i ∧ H 1 = some ⟨b, 2, [repoV x], false, false, false⟩ ∧ E 4 = .optr 4 b1 3 0 none ∧ H 4 = some ⟨b1, 3, [commitV c], false, false, false⟩ ∧ parOkS c.parents i = decide (c.parents.length ≤ 2)) ∨ (e = .ret ∧ E 2 = .bool false ∧ parOkS c.parents i = false)) c.parents.length
        ⟨0, rfl, by first | (simp -dsimp only [↓SD, SP, ↓reduceIte, Nat.reduceEqDiff, ini, frz, rdAo, rd3o, rd2o, rdpo, rd1o, fnv, intv, VOp.dst, getRo, solEo, solo, solo1, allsz, List.all_cons, List.all_nil, Bool.and_true, beq_self_eq_true, List.length_cons, List.length_nil, Nat.zero_add, srcv, Nat.le_refl, List.take_succ_cons, List.take_zero, and_self, if_true, Nat.reduceAdd, Nat.reduceLT, eq_self, h1]; done) | (simp -dsimp only [↓SD, SP, ↓reduceIte, Nat.reduceEqDiff, ini, frz, rdAo, rd3o, rd2o, rdpo, rd1o, fnv, intv, VOp.dst, getRo, solEo, solo, solo1, allsz, List.all_cons, List.all_nil, Bool.and_true, beq_self_eq_true, List.length_cons, List.length_nil, Nat.zero_add, srcv, Nat.le_refl, List.take_succ_cons, List.take_zero, and_self, if_true, Nat.reduceAdd, Nat.reduceLT, eq_self, h1]; rfl) | rfl, by first | (simp -dsimp only [↓SD, SP, ↓reduceIte, Nat.reduceEqDiff, ini, frz, rdAo, rd3o, rd2o, rdpo, rd1o, fnv, intv, VOp.dst, getRo, solEo, solo, solo1, allsz, List.all_cons, List.all_nil, Bool.and_true, beq_self_eq_true, List.length_cons, List.length_nil, Nat.zero_add, srcv, Nat.le_refl, List.take_succ_cons, List.take_zero, and_self, if_true, Nat.reduceAdd, Nat.reduceLT, eq_self, h3]; done) | (simp -dsimp only [↓SD, SP, ↓reduceIte, Nat.reduceEqDiff, ini, frz, rdAo, rd3o, rd2o, rdpo, rd1o, fnv, intv, VOp.dst, getRo, solEo, solo, solo1, allsz, List.all_cons, List.all_nil, Bool.and_true, beq_self_eq_true, List.length_cons, List.length_nil, Nat.zero_add, srcv, Nat.le_refl, List.take_succ_cons, List.take_zero, and_self, if_true, Nat.reduceAdd, Nat.reduceLT, eq_self, h3]; rfl) | rfl, by first | (simp -dsimp only [↓SD, SP, ↓reduceIte, Nat.reduceEqDiff, ini, frz, rdAo, rd3o, rd2o, rdpo, rd1o, fnv, intv, VOp.dst, getRo, solEo, solo, solo1, allsz, List.all_cons, List.all_nil, Bool.and_true, beq_self_eq_true, List.length_cons, List.length_nil, Nat.zero_add, srcv, Nat.le_refl, List.take_succ_cons, List.take_zero, and_self, if_true, Nat.reduceAdd, Nat.reduceLT, eq_self, hH]; done) | (simp -dsimp only [↓SD, SP, ↓reduceIte, Nat.reduceEqDiff, ini, frz, rdAo, rd3o, rd2o, rdpo, rd1o, fnv, intv, VOp.dst, getRo, solEo, solo, solo1, allsz, List.all_cons, List.all_nil, Bool.and_true, beq_self_eq_true, List.length_cons, List.length_nil, Nat.zero_add, srcv, Nat.le_refl, List.take_succ_cons, List.take_zero, and_self, if_true, Nat.reduceAdd, Nat.reduceLT, eq_self, hH]; rfl) | rfl, by first | (simp -dsimp only [↓SD, SP, ↓reduceIte, Nat.reduceEqDiff, ini, frz, rdAo, rd3o, rd2o, rdpo, rd1o, fnv, intv, VOp.dst, getRo, solEo, solo, solo1, allsz, List.all_cons, List.all_nil, Bool.and_true, beq_self_eq_true, List.length_cons, List.length_nil, Nat.zero_add, srcv, Nat.le_refl, List.take_succ_cons, List.take_zero, and_self, if_true, Nat.reduceAdd, Nat.reduceLT, eq_self]; done) | (simp -dsimp only [↓SD, SP, ↓reduceIte, Nat.reduceEqDiff, ini, frz, rdAo, rd3o, rd2o, rdpo, rd1o, fnv, intv, VOp.dst, getRo, solEo, solo, solo1, allsz, List.all_cons, List.all_nil, Bool.and_true, beq_self_eq_true, List.length_cons, List.length_nil, Nat.zero_add, srcv, Nat.le_refl, List.take_succ_cons, List.take_zero, and_self, if_true, Nat.reduceAdd, Nat.reduceLT, eq_self]; rfl) | rfl, by first | (simp -dsimp only [↓SD, SP, ↓reduceIte, Nat.reduceEqDiff, ini, frz, rdAo, rd3o, rd2o, rdpo, rd1o, fnv, intv, VOp.dst, getRo, solEo, solo, solo1, allsz, List.all_cons, List.all_nil, Bool.and_true, beq_self_eq_true, List.length_cons, List.length_nil, Nat.zero_add, srcv, Nat.le_refl, List.take_succ_cons, List.take_zero, and_self, if_true, Nat.reduceAdd, Nat.reduceLT, eq_self]; done) | (simp -dsimp only [↓SD, SP, ↓reduceIte, Nat.reduceEqDiff, ini, frz, rdAo, rd3o, rd2o, rdpo, rd1o, fnv, intv, VOp.dst, getRo, solEo, solo, solo1, allsz, List.all_cons, List.all_nil, Bool.and_true, beq_self_eq_true, List.length_cons, List.length_nil, Nat.zero_add, srcv, Nat.le_refl, List.take_succ_cons, List.take_zero, and_self, if_true, Nat.reduceAdd, Nat.reduceLT, eq_self]; rfl) | rfl, by first | (simp -dsimp only [↓SD, SP, ↓reduceIte, Nat.reduceEqDiff, ini, frz, rdAo, rd3o, rd2o, rdpo, rd1o, fnv, intv, VOp.dst, getRo, solEo, solo, solo1, allsz, List.all_cons, List.all_nil, Bool.and_true, beq_self_eq_true, List.length_cons, List.length_nil, Nat.zero_add, srcv, Nat.le_refl, List.take_succ_cons, List.take_zero, and_self, if_true, Nat.reduceAdd, Nat.reduceLT, eq_self]; done) | (simp -dsimp only [↓SD, SP, ↓reduceIte, Nat.reduceEqDiff, ini, frz, rdAo, rd3o, rd2o, rdpo, rd1o, fnv, intv, VOp.dst, getRo, solEo, solo, solo1, allsz, List.all_cons, List.all_nil, Bool.and_true, beq_self_eq_true, List.length_cons, List.length_nil, Nat.zero_add, srcv, Nat.le_refl, List.take_succ_cons, List.take_zero, and_self, if_true, Nat.reduceAdd, Nat.reduceLT, eq_self]; rfl) | rfl, fun j h => by omega⟩ ?_ ?_
      · rintro e E H n (⟨rfl, h1, h3, hH, h4, hH4, hp⟩ | ⟨rfl, h2, hp⟩)
        · rw [parOkS_eq] at hp
          by_cases hl2 : (2 : Int) < c.parents.length
          · simp -dsimp only [↓SD, SP, ↓reduceIte, Nat.reduceEqDiff, ini, frz, rdAo, rd3o, rd2o, rdpo, rd1o, fnv, intv, VOp.dst, getRo, solEo, solo, solo1, allsz, List.all_cons, List.all_nil, Bool.and_true, beq_self_eq_true, List.length_cons, List.length_nil, Nat.zero_add, srcv, Nat.le_refl, List.take_succ_cons, List.take_zero, and_self, if_true, Nat.reduceAdd, Nat.reduceLT, eq_self, fa_o, ↓ldv_f, ↓ldv_n, ↓stv_f, ↓stv_a, fldv, setf, bldv, small, Bool.true_and, List.getElem?_cons_zero, List.getElem?_cons_succ, List.set_cons_zero, List.set_cons_succ, Bool.false_eq_true, if_false, true_and, and_true, reduceCtorEq, false_implies, implies_true, forall_const, h4, hH4, ↓fv_c0, l_ints, hl2, ↓r_any]
            refine no (by simp [commitOk, hp, show ¬ c.parents.length ≤ 2 by omega]) _ _ _ ?_
            simp -dsimp only [↓SD, SP, ↓reduceIte, Nat.reduceEqDiff, ini, frz, rdAo, rd3o, rd2o, rdpo, rd1o, fnv, intv, VOp.dst, getRo, solEo, solo, solo1, allsz, List.all_cons, List.all_nil, Bool.and_true, beq_self_eq_true, List.length_cons, List.length_nil, Nat.zero_add, srcv, Nat.le_refl, List.take_succ_cons, List.take_zero, and_self, if_true, Nat.reduceAdd, Nat.reduceLT, eq_self]
          have hl2' : c.parents.length ≤ 2 := by omega
          simp -dsimp only [↓SD, SP, ↓reduceIte, Nat.reduceEqDiff, ini, frz, rdAo, rd3o, rd2o, rdpo, rd1o, fnv, intv, VOp.dst, getRo, solEo, solo, solo1, allsz, List.all_cons, List.all_nil, Bool.and_true, beq_self_eq_true, List.length_cons, List.length_nil, Nat.zero_add, srcv, Nat.le_refl, List.take_succ_cons, List.take_zero, and_self, if_true, Nat.reduceAdd, Nat.reduceLT, eq_self, fa_o, ↓ldv_f, ↓ldv_n, ↓stv_f, ↓stv_a, fldv, setf, bldv, small, Bool.true_and, List.getElem?_cons_zero, List.getElem?_cons_succ, List.set_cons_zero, List.set_cons_succ, Bool.false_eq_true, if_false, true_and, and_true, reduceCtorEq, false_implies, implies_true, forall_const, h4, hH4, ↓fv_c0, ↓fv_c1, l_ints, hl2, ↓r_any]
          refine call_rule (hnm _ hoc.2.1) ?_
          rintro lo1 hi1 r - - rfl
          cases e1 : nmOk c.who
          · simp -dsimp only [↓SD, SP, ↓reduceIte, Nat.reduceEqDiff, ini, frz, rdAo, rd3o, rd2o, rdpo, rd1o, fnv, intv, VOp.dst, getRo, solEo, solo, solo1, allsz, List.all_cons, List.all_nil, Bool.and_true, beq_self_eq_true, List.length_cons, List.length_nil, Nat.zero_add, srcv, Nat.le_refl, List.take_succ_cons, List.take_zero, and_self, if_true, Nat.reduceAdd, Nat.reduceLT, eq_self, fa_o, ↓ldv_f, ↓ldv_n, ↓stv_f, ↓stv_a, fldv, setf, bldv, small, Bool.true_and, List.getElem?_cons_zero, List.getElem?_cons_succ, List.set_cons_zero, List.set_cons_succ, Bool.false_eq_true, if_false, true_and, and_true, reduceCtorEq, false_implies, implies_true, forall_const, ↓r_any]
            refine no (by simp [commitOk, e1]) _ _ _ ?_
            simp -dsimp only [↓SD, SP, ↓reduceIte, Nat.reduceEqDiff, ini, frz, rdAo, rd3o, rd2o, rdpo, rd1o, fnv, intv, VOp.dst, getRo, solEo, solo, solo1, allsz, List.all_cons, List.all_nil, Bool.and_true, beq_self_eq_true, List.length_cons, List.length_nil, Nat.zero_add, srcv, Nat.le_refl, List.take_succ_cons, List.take_zero, and_self, if_true, Nat.reduceAdd, Nat.reduceLT, eq_self]
          simp -dsimp only [↓SD, SP, ↓reduceIte, Nat.reduceEqDiff, ini, frz, rdAo, rd3o, rd2o, rdpo, rd1o, fnv, intv, VOp.dst, getRo, solEo, solo, solo1, allsz, List.all_cons, List.all_nil, Bool.and_true, beq_self_eq_true, List.length_cons, List.length_nil, Nat.zero_add, srcv, Nat.le_refl, List.take_succ_cons, List.take_zero, and_self, if_true, Nat.reduceAdd, Nat.reduceLT, eq_self, fa_o, ↓ldv_f, ↓ldv_n, ↓stv_f, ↓stv_a, fldv, setf, bldv, small, Bool.true_and, List.getElem?_cons_zero, List.getElem?_cons_succ, List.set_cons_zero, List.set_cons_succ, Bool.false_eq_true, if_false, true_and, and_true, reduceCtorEq, false_implies, implies_true, forall_const, h4, hH4, ↓fv_c2, ↓rd_lv, ↓r_any]
          refine call_rule (htr _ hoc.2.2) ?_
          rintro lo2 hi2 r - - rfl
          cases e2 : treeOk c.tree
          · simp -dsimp only [↓SD, SP, ↓reduceIte, Nat.reduceEqDiff, ini, frz, rdAo, rd3o, rd2o, rdpo, rd1o, fnv, intv, VOp.dst, getRo, solEo, solo, solo1, allsz, List.all_cons, List.all_nil, Bool.and_true, beq_self_eq_true, List.length_cons, List.length_nil, Nat.zero_add, srcv, Nat.le_refl, List.take_succ_cons, List.take_zero, and_self, if_true, Nat.reduceAdd, Nat.reduceLT, eq_self, fa_o, ↓ldv_f, ↓ldv_n, ↓stv_f, ↓stv_a, fldv, setf, bldv, small, Bool.true_and, List.getElem?_cons_zero, List.getElem?_cons_succ, List.set_cons_zero, List.set_cons_succ, Bool.false_eq_true, if_false, true_and, and_true, reduceCtorEq, false_implies, implies_true, forall_const, ↓r_any]
            refine no (by simp [commitOk, e2]) _ _ _ ?_
            simp -dsimp only [↓SD, SP, ↓reduceIte, Nat.reduceEqDiff, ini, frz, rdAo, rd3o, rd2o, rdpo, rd1o, fnv, intv, VOp.dst, getRo, solEo, solo, solo1, allsz, List.all_cons, List.all_nil, Bool.and_true, beq_self_eq_true, List.length_cons, List.length_nil, Nat.zero_add, srcv, Nat.le_refl, List.take_succ_cons, List.take_zero, and_self, if_true, Nat.reduceAdd, Nat.reduceLT, eq_self]
          simp -dsimp only [↓SD, SP, ↓reduceIte, Nat.reduceEqDiff, ini, frz, rdAo, rd3o, rd2o, rdpo, rd1o, fnv, intv, VOp.dst, getRo, solEo, solo, solo1, allsz, List.all_cons, List.all_nil, Bool.and_true, beq_self_eq_true, List.length_cons, List.length_nil, Nat.zero_add, srcv, Nat.le_refl, List.take_succ_cons, List.take_zero, and_self, if_true, Nat.reduceAdd, Nat.reduceLT, eq_self, ↓r_any, h3, wrap64 ((i : Int) + 1) (by omega)]
          refine hK (m - 1) _ _ _ (by omega) ⟨i + 1, by omega, by first | (simp -dsimp only [↓SD, SP, ↓reduceIte, Nat.reduceEqDiff, ini, frz, rdAo, rd3o, rd2o, rdpo, rd1o, fnv, intv, VOp.dst, getRo, solEo, solo, solo1, allsz, List.all_cons, List.all_nil, Bool.and_true, beq_self_eq_true, List.length_cons, List.length_nil, Nat.zero_add, srcv, Nat.le_refl, List.take_succ_cons, List.take_zero, and_self, if_true, Nat.reduceAdd, Nat.reduceLT, eq_self, h1]; done) | (simp -dsimp only [↓SD, SP, ↓reduceIte, Nat.reduceEqDiff, ini, frz, rdAo, rd3o, rd2o, rdpo, rd1o, fnv, intv, VOp.dst, getRo, solEo, solo, solo1, allsz, List.all_cons, List.all_nil, Bool.and_true, beq_self_eq_true, List.length_cons, List.length_nil, Nat.zero_add, srcv, Nat.le_refl, List.take_succ_cons, List.take_zero, and_self, if_true, Nat.reduceAdd, Nat.reduceLT, eq_self, h1]; rfl) | rfl, by first | (simp -dsimp only [↓SD, SP, ↓reduceIte, Nat.reduceEqDiff, ini, frz, rdAo, rd3o, rd2o, rdpo, rd1o, fnv, intv, VOp.dst, getRo, solEo, solo, solo1, allsz, List.all_cons, List.all_nil, Bool.and_true, beq_self_eq_true, List.length_cons, List.length_nil, Nat.zero_add, srcv, Nat.le_refl, List.take_succ_cons, List.take_zero, and_self, if_true, Nat.reduceAdd, Nat.reduceLT, eq_self, Int.natCast_add, Int.natCast_one]; done) | (simp -dsimp only [↓SD, SP, ↓reduceIte, Nat.reduceEqDiff, ini, frz, rdAo, rd3o, rd2o, rdpo, rd1o, fnv, intv, VOp.dst, getRo, solEo, solo, solo1, allsz, List.all_cons, List.all_nil, Bool.and_true, beq_self_eq_true, List.length_cons, List.length_nil, Nat.zero_add, srcv, Nat.le_refl, List.take_succ_cons, List.take_zero, and_self, if_true, Nat.reduceAdd, Nat.reduceLT, eq_self, Int.natCast_add, Int.natCast_one]; rfl) | rfl, by first | (simp -dsimp only [↓SD, SP, ↓reduceIte, Nat.reduceEqDiff, ini, frz, rdAo, rd3o, rd2o, rdpo, rd1o, fnv, intv, VOp.dst, getRo, solEo, solo, solo1, allsz, List.all_cons, List.all_nil, Bool.and_true, beq_self_eq_true, List.length_cons, List.length_nil, Nat.zero_add, srcv, Nat.le_refl, List.take_succ_cons, List.take_zero, and_self, if_true, Nat.reduceAdd, Nat.reduceLT, eq_self, hH]; done) | (simp -dsimp only [↓SD, SP, ↓reduceIte, Nat.reduceEqDiff, ini, frz, rdAo, rd3o, rd2o, rdpo, rd1o, fnv, intv, VOp.dst, getRo, solEo, solo, solo1, allsz, List.all_cons, List.all_nil, Bool.and_true, beq_self_eq_true, List.length_cons, List.length_nil, Nat.zero_add, srcv, Nat.le_refl, List.take_succ_cons, List.take_zero, and_self, if_true, Nat.reduceAdd, Nat.reduceLT, eq_self, hH]; rfl) | rfl, fun j hj c' hc' => ?_⟩
          rcases Nat.lt_or_ge j i with h' | h'
          · exact hok j h' c' hc'
          · obtain rfl : j = i := by omega
            rw [hget] at hc'
            obtain rfl := Option.some.inj hc'
            simp [commitOk, hp, hl2', e1, e2]
        · rw [parOkS_eq] at hp
          simp -dsimp only [↓SD, SP, ↓reduceIte, Nat.reduceEqDiff, ini, frz, rdAo, rd3o, rd2o, rdpo, rd1o, fnv, intv, VOp.dst, getRo, solEo, solo, solo1, allsz, List.all_cons, List.all_nil, Bool.and_true, beq_self_eq_true, List.length_cons, List.length_nil, Nat.zero_add, srcv, Nat.le_refl, List.take_succ_cons, List.take_zero, and_self, if_true, Nat.reduceAdd, Nat.reduceLT, eq_self]
          exact no (by simp [commitOk, hp]) _ _ _ h2
      · rintro m2 E H n Q2 K2 ⟨k, hm2, h1, h3, hH, h4, hH4, h5, hok2⟩ hQ2 hK2
        by_cases hk : k < c.parents.length
        · have hgk : c.parents[k]? = some c.parents[k] := List.getElem?_eq_getElem hk
          have h0k : c.parents[0]? = some c.parents[0] := List.getElem?_eq_getElem (by omega)
          have no2 : parS i c.parents k c.parents[k] = false → ∀ E H n, E 2 = .bool false → Q2 .ret E H n := fun h E H n h2 => hQ2 _ _ _ _ (.inr ⟨rfl, h2, by unfold parOkS; rw [allI_no hgk h]; rfl⟩)
          have hkk : parS i c.parents k c.parents[k] = (decide (0 ≤ c.parents[k] ∧ c.parents[k] ≤ (i : Int) - 1) && !(decide (0 < k) && decide (c.parents[k] = c.parents[0]))) := by
            unfold parS
            rw [h0k]
            rfl
          have hxk := x_ints c.parents k hk
          have hx0 : idxAv 1 (ints c.parents) (.int .i64 0) = some (.lptr (iz c.parents[0])) := x_ints c.parents 0 (by omega)
          generalize c.parents[k] = p at *
          generalize c.parents[0] = q at *
          have go : parS i c.parents k p = true → ∀ E H n, E 1 = .optr 1 b 2 0 none → E 3 = .int .i64 i → H 1 = some ⟨b, 2, [repoV x], false, false, false⟩ → E 4 = .optr 4 b1 3 0 none → H 4 = some ⟨b1, 3, [commitV c], false, false, false⟩ → E 5 = .int .i64 (k + 1 : Nat) → K2 E H n := fun h E H n a1 a2 a3 a4 a5 a6 => by
            refine hK2 (m2 - 1) _ _ _ (by omega) ⟨k + 1, by omega, a1, a2, a3, a4, a5, a6, fun j hj q hq => ?_⟩
            rcases Nat.lt_or_ge j k with h' | h'
            · exact hok2 j h' q hq
            · obtain rfl : j = k := by omega
              rw [hgk] at hq
              obtain rfl := Option.some.inj hq
              exact h
          simp -dsimp only [↓SD, SP, ↓reduceIte, Nat.reduceEqDiff, ini, frz, rdAo, rd3o, rd2o, rdpo, rd1o, fnv, intv, VOp.dst, getRo, solEo, solo, solo1, allsz, List.all_cons, List.all_nil, Bool.and_true, beq_self_eq_true, List.length_cons, List.length_nil, Nat.zero_add, srcv, Nat.le_refl, List.take_succ_cons, List.take_zero, and_self, if_true, Nat.reduceAdd, Nat.reduceLT, eq_self, fa_o, ↓ldv_f, ↓ldv_n, ↓stv_f, ↓stv_a, fldv, setf, bldv, small, Bool.true_and, List.getElem?_cons_zero, List.getElem?_cons_succ, List.set_cons_zero, List.set_cons_succ, Bool.false_eq_true, if_false, true_and, and_true, reduceCtorEq, false_implies, implies_true, forall_const, h4, h5, hH4, h3, ↓fv_c0, l_ints, Int.ofNat_lt, hk, hxk, d_iz, wrap64 ((i : Int) - 1) (by omega), ↓r_any]
          refine call_rule (hw p 0 ((i : Int) - 1)) ?_
          rintro lo1 hi1 r - - rfl
          by_cases hr : 0 ≤ p ∧ p ≤ (i : Int) - 1
          case neg =>
            simp -dsimp only [↓SD, SP, ↓reduceIte, Nat.reduceEqDiff, ini, frz, rdAo, rd3o, rd2o, rdpo, rd1o, fnv, intv, VOp.dst, getRo, solEo, solo, solo1, allsz, List.all_cons, List.all_nil, Bool.and_true, beq_self_eq_true, List.length_cons, List.length_nil, Nat.zero_add, srcv, Nat.le_refl, List.take_succ_cons, List.take_zero, and_self, if_true, Nat.reduceAdd, Nat.reduceLT, eq_self, fa_o, ↓ldv_f, ↓ldv_n, ↓stv_f, ↓stv_a, fldv, setf, bldv, small, Bool.true_and, List.getElem?_cons_zero, List.getElem?_cons_succ, List.set_cons_zero, List.set_cons_succ, Bool.false_eq_true, if_false, true_and, and_true, reduceCtorEq, false_implies, implies_true, forall_const, hr, ↓r_any, decide_false, Bool.not_false]
            refine no2 (by rw [hkk]; simp [hr]) _ _ _ ?_
            simp -dsimp only [↓SD, SP, ↓reduceIte, Nat.reduceEqDiff, ini, frz, rdAo, rd3o, rd2o, rdpo, rd1o, fnv, intv, VOp.dst, getRo, solEo, solo, solo1, allsz, List.all_cons, List.all_nil, Bool.and_true, beq_self_eq_true, List.length_cons, List.length_nil, Nat.zero_add, srcv, Nat.le_refl, List.take_succ_cons, List.take_zero, and_self, if_true, Nat.reduceAdd, Nat.reduceLT, eq_self]
          by_cases hk0 : (0 : Int) < k
          · by_cases hpq : p = q
            · subst hpq
              simp -dsimp only [↓SD, SP, ↓reduceIte, Nat.reduceEqDiff, ini, frz, rdAo, rd3o, rd2o, rdpo, rd1o, fnv, intv, VOp.dst, getRo, solEo, solo, solo1, allsz, List.all_cons, List.all_nil, Bool.and_true, beq_self_eq_true, List.length_cons, List.length_nil, Nat.zero_add, srcv, Nat.le_refl, List.take_succ_cons, List.take_zero, and_self, if_true, Nat.reduceAdd, Nat.reduceLT, eq_self, fa_o, ↓ldv_f, ↓ldv_n, ↓stv_f, ↓stv_a, fldv, setf, bldv, small, Bool.true_and, List.getElem?_cons_zero, List.getElem?_cons_succ, List.set_cons_zero, List.set_cons_succ, Bool.false_eq_true, if_false, true_and, and_true, reduceCtorEq, false_implies, implies_true, forall_const, hr, h4, h5, hH4, h3, hk0, ↓fv_c0, hxk, hx0, d_iz, ↓r_any, decide_true, Bool.not_true]
              refine no2 (by rw [hkk]; simp; omega) _ _ _ ?_
              simp -dsimp only [↓SD, SP, ↓reduceIte, Nat.reduceEqDiff, ini, frz, rdAo, rd3o, rd2o, rdpo, rd1o, fnv, intv, VOp.dst, getRo, solEo, solo, solo1, allsz, List.all_cons, List.all_nil, Bool.and_true, beq_self_eq_true, List.length_cons, List.length_nil, Nat.zero_add, srcv, Nat.le_refl, List.take_succ_cons, List.take_zero, and_self, if_true, Nat.reduceAdd, Nat.reduceLT, eq_self]
            · simp -dsimp only [↓SD, SP, ↓reduceIte, Nat.reduceEqDiff, ini, frz, rdAo, rd3o, rd2o, rdpo, rd1o, fnv, intv, VOp.dst, getRo, solEo, solo, solo1, allsz, List.all_cons, List.all_nil, Bool.and_true, beq_self_eq_true, List.length_cons, List.length_nil, Nat.zero_add, srcv, Nat.le_refl, List.take_succ_cons, List.take_zero, and_self, if_true, Nat.reduceAdd, Nat.reduceLT, eq_self, fa_o, ↓ldv_f, ↓ldv_n, ↓stv_f, ↓stv_a, fldv, setf, bldv, small, Bool.true_and, List.getElem?_cons_zero, List.getElem?_cons_succ, List.set_cons_zero, List.set_cons_succ, Bool.false_eq_true, if_false, true_and, and_true, reduceCtorEq, false_implies, implies_true, forall_const, hr, h4, h5, hH4, h3, hk0, ↓fv_c0, hxk, hx0, d_iz, hpq, ↓r_any, decide_true, Bool.not_true, wrap64 ((k : Int) + 1) (by omega)]
              exact go (by rw [hkk]; simp [hr, hpq]) _ _ _ (by first | (simp -dsimp only [↓SD, SP, ↓reduceIte, Nat.reduceEqDiff, ini, frz, rdAo, rd3o, rd2o, rdpo, rd1o, fnv, intv, VOp.dst, getRo, solEo, solo, solo1, allsz, List.all_cons, List.all_nil, Bool.and_true, beq_self_eq_true, List.length_cons, List.length_nil, Nat.zero_add, srcv, Nat.le_refl, List.take_succ_cons, List.take_zero, and_self, if_true, Nat.reduceAdd, Nat.reduceLT, eq_self, h1]; done) | (simp -dsimp only [↓SD, SP, ↓reduceIte, Nat.reduceEqDiff, ini, frz, rdAo, rd3o, rd2o, rdpo, rd1o, fnv, intv, VOp.dst, getRo, solEo, solo, solo1, allsz, List.all_cons, List.all_nil, Bool.and_true, beq_self_eq_true, List.length_cons, List.length_nil, Nat.zero_add, srcv, Nat.le_refl, List.take_succ_cons, List.take_zero, and_self, if_true, Nat.reduceAdd, Nat.reduceLT, eq_self, h1]; rfl) | rfl) (by first | (simp -dsimp only [↓SD, SP, ↓reduceIte, Nat.reduceEqDiff, ini, frz, rdAo, rd3o, rd2o, rdpo, rd1o, fnv, intv, VOp.dst, getRo, solEo, solo, solo1, allsz, List.all_cons, List.all_nil, Bool.and_true, beq_self_eq_true, List.length_cons, List.length_nil, Nat.zero_add, srcv, Nat.le_refl, List.take_succ_cons, List.take_zero, and_self, if_true, Nat.reduceAdd, Nat.reduceLT, eq_self, h3]; done) | (simp -dsimp only [↓SD, SP, ↓reduceIte, Nat.reduceEqDiff, ini, frz, rdAo, rd3o, rd2o, rdpo, rd1o, fnv, intv, VOp.dst, getRo, solEo, solo, solo1, allsz, List.all_cons, List.all_nil, Bool.and_true, beq_self_eq_true, List.length_cons, List.length_nil, Nat.zero_add, srcv, Nat.le_refl, List.take_succ_cons, List.take_zero, and_self, if_true, Nat.reduceAdd, Nat.reduceLT, eq_self, h3]; rfl) | rfl) (by first | (simp -dsimp only [↓SD, SP, ↓reduceIte, Nat.reduceEqDiff, ini, frz, rdAo, rd3o, rd2o, rdpo, rd1o, fnv, intv, VOp.dst, getRo, solEo, solo, solo1, allsz, List.all_cons, List.all_nil, Bool.and_true, beq_self_eq_true, List.length_cons, List.length_nil, Nat.zero_add, srcv, Nat.le_refl, List.take_succ_cons, List.take_zero, and_self, if_true, Nat.reduceAdd, Nat.reduceLT, eq_self, hH]; done) | (simp -dsimp only [↓SD, SP, ↓reduceIte, Nat.reduceEqDiff, ini, frz, rdAo, rd3o, rd2o, rdpo, rd1o, fnv, intv, VOp.dst, getRo, solEo, solo, solo1, allsz, List.all_cons, List.all_nil, Bool.and_true, beq_self_eq_true, List.length_cons, List.length_nil, Nat.zero_add, srcv, Nat.le_refl, List.take_succ_cons, List.take_zero, and_self, if_true, Nat.reduceAdd, Nat.reduceLT, eq_self, hH]; rfl) | rfl) (by first | (simp -dsimp only [↓SD, SP, ↓reduceIte, Nat.reduceEqDiff, ini, frz, rdAo, rd3o, rd2o, rdpo, rd1o, fnv, intv, VOp.dst, getRo, solEo, solo, solo1, allsz, List.all_cons, List.all_nil, Bool.and_true, beq_self_eq_true, List.length_cons, List.length_nil, Nat.zero_add, srcv, Nat.le_refl, List.take_succ_cons, List.take_zero, and_self, if_true, Nat.reduceAdd, Nat.reduceLT, eq_self, h4]; done) | (simp -dsimp only [↓SD, SP, ↓reduceIte, Nat.reduceEqDiff, ini, frz, rdAo, rd3o, rd2o, rdpo, rd1o, fnv, intv, VOp.dst, getRo, solEo, solo, solo1, allsz, List.all_cons, List.all_nil, Bool.and_true, beq_self_eq_true, List.length_cons, List.length_nil, Nat.zero_add, srcv, Nat.le_refl, List.take_succ_cons, List.take_zero, and_self, if_true, Nat.reduceAdd, Nat.reduceLT, eq_self, h4]; rfl) | rfl) (by first | (simp -dsimp only [↓SD, SP, ↓reduceIte, Nat.reduceEqDiff, ini, frz, rdAo, rd3o, rd2o, rdpo, rd1o, fnv, intv, VOp.dst, getRo, solEo, solo, solo1, allsz, List.all_cons, List.all_nil, Bool.and_true, beq_self_eq_true, List.length_cons, List.length_nil, Nat.zero_add, srcv, Nat.le_refl, List.take_succ_cons, List.take_zero, and_self, if_true, Nat.reduceAdd, Nat.reduceLT, eq_self, hH4]; done) | (simp -dsimp only [↓SD, SP, ↓reduceIte, Nat.reduceEqDiff, ini, frz, rdAo, rd3o, rd2o, rdpo, rd1o, fnv, intv, VOp.dst, getRo, solEo, solo, solo1, allsz, List.all_cons, List.all_nil, Bool.and_true, beq_self_eq_true, List.length_cons, List.length_nil, Nat.zero_add, srcv, Nat.le_refl, List.take_succ_cons, List.take_zero, and_self, if_true, Nat.reduceAdd, Nat.reduceLT, eq_self, hH4]; rfl) | rfl) (by first | (simp -dsimp only [↓SD, SP, ↓reduceIte, Nat.reduceEqDiff, ini, frz, rdAo, rd3o, rd2o, rdpo, rd1o, fnv, intv, VOp.dst, getRo, solEo, solo, solo1, allsz, List.all_cons, List.all_nil, Bool.and_true, beq_self_eq_true, List.length_cons, List.length_nil, Nat.zero_add, srcv, Nat.le_refl, List.take_succ_cons, List.take_zero, and_self, if_true, Nat.reduceAdd, Nat.reduceLT, eq_self, Int.natCast_add, Int.natCast_one]; done) | (simp -dsimp only [↓SD, SP, ↓reduceIte, Nat.reduceEqDiff, ini, frz, rdAo, rd3o, rd2o, rdpo, rd1o, fnv, intv, VOp.dst, getRo, solEo, solo, solo1, allsz, List.all_cons, List.all_nil, Bool.and_true, beq_self_eq_true, List.length_cons, List.length_nil, Nat.zero_add, srcv, Nat.le_refl, List.take_succ_cons, List.take_zero, and_self, if_true, Nat.reduceAdd, Nat.reduceLT, eq_self, Int.natCast_add, Int.natCast_one]; rfl) | rfl)
          · simp -dsimp only [↓SD, SP, ↓reduceIte, Nat.reduceEqDiff, ini, frz, rdAo, rd3o, rd2o, rdpo, rd1o, fnv, intv, VOp.dst, getRo, solEo, solo, solo1, allsz, List.all_cons, List.all_nil, Bool.and_true, beq_self_eq_true, List.length_cons, List.length_nil, Nat.zero_add, srcv, Nat.le_refl, List.take_succ_cons, List.take_zero, and_self, if_true, Nat.reduceAdd, Nat.reduceLT, eq_self, fa_o, ↓ldv_f, ↓ldv_n, ↓stv_f, ↓stv_a, fldv, setf, bldv, small, Bool.true_and, List.getElem?_cons_zero, List.getElem?_cons_succ, List.set_cons_zero, List.set_cons_succ, Bool.false_eq_true, if_false, true_and, and_true, reduceCtorEq, false_implies, implies_true, forall_const, hr, h4, h5, hH4, h3, hk0, ↓r_any, decide_true, Bool.not_true, wrap64 ((k : Int) + 1) (by omega)]
            exact go (by rw [hkk]; simp [hr, show ¬ 0 < k by omega]) _ _ _ (by first | (simp -dsimp only [↓SD, SP, ↓reduceIte, Nat.reduceEqDiff, ini, frz, rdAo, rd3o, rd2o, rdpo, rd1o, fnv, intv, VOp.dst, getRo, solEo, solo, solo1, allsz, List.all_cons, List.all_nil, Bool.and_true, beq_self_eq_true, List.length_cons, List.length_nil, Nat.zero_add, srcv, Nat.le_refl, List.take_succ_cons, List.take_zero, and_self, if_true, Nat.reduceAdd, Nat.reduceLT, eq_self, h1]; done) | (simp -dsimp only [↓SD, SP, ↓reduceIte, Nat.reduceEqDiff, ini, frz, rdAo, rd3o, rd2o, rdpo, rd1o, fnv, intv, VOp.dst, getRo, solEo, solo, solo1, allsz, List.all_cons, List.all_nil, Bool.and_true, beq_self_eq_true, List.length_cons, List.length_nil, Nat.zero_add, srcv, Nat.le_refl, List.take_succ_cons, List.take_zero, and_self, if_true, Nat.reduceAdd, Nat.reduceLT, eq_self, h1]; rfl) | rfl) (by first | (simp -dsimp only [↓SD, SP, ↓reduceIte, Nat.reduceEqDiff, ini, frz, rdAo, rd3o, rd2o, rdpo, rd1o, fnv, intv, VOp.dst, getRo, solEo, solo, solo1, allsz, List.all_cons, List.all_nil, Bool.and_true, beq_self_eq_true, List.length_cons, List.length_nil, Nat.zero_add, srcv, Nat.le_refl, List.take_succ_cons, List.take_zero, and_self, if_true, Nat.reduceAdd, Nat.reduceLT, eq_self, h3]; done) | (simp -dsimp only [↓SD, SP, ↓reduceIte, Nat.reduceEqDiff, ini, frz, rdAo, rd3o, rd2o, rdpo, rd1o, fnv, intv, VOp.dst, getRo, solEo, solo, solo1, allsz, List.all_cons, List.all_nil, Bool.and_true, beq_self_eq_true, List.length_cons, List.length_nil, Nat.zero_add, srcv, Nat.le_refl, List.take_succ_cons, List.take_zero, and_self, if_true, Nat.reduceAdd, Nat.reduceLT, eq_self, h3]; rfl) | rfl) (by first | (simp -dsimp only [↓SD, SP, ↓reduceIte, Nat.reduceEqDiff, ini, frz, rdAo, rd3o, rd2o, rdpo, rd1o, fnv, intv, VOp.dst, getRo, solEo, solo, solo1, allsz, List.all_cons, List.all_nil, Bool.and_true, beq_self_eq_true, List.length_cons, List.length_nil, Nat.zero_add, srcv, Nat.le_refl, List.take_succ_cons, List.take_zero, and_self, if_true, Nat.reduceAdd, Nat.reduceLT, eq_self, hH]; done) | (simp -dsimp only [↓SD, SP, ↓reduceIte, Nat.reduceEqDiff, ini, frz, rdAo, rd3o, rd2o, rdpo, rd1o, fnv, intv, VOp.dst, getRo, solEo, solo, solo1, allsz, List.all_cons, List.all_nil, Bool.and_true, beq_self_eq_true, List.length_cons, List.length_nil, Nat.zero_add, srcv, Nat.le_refl, List.take_succ_cons, List.take_zero, and_self, if_true, Nat.reduceAdd, Nat.reduceLT, eq_self, hH]; rfl) | rfl) (by first | (simp -dsimp only [↓SD, SP, ↓reduceIte, Nat.reduceEqDiff, ini, frz, rdAo, rd3o, rd2o, rdpo, rd1o, fnv, intv, VOp.dst, getRo, solEo, solo, solo1, allsz, List.all_cons, List.all_nil, Bool.and_true, beq_self_eq_true, List.length_cons, List.length_nil, Nat.zero_add, srcv, Nat.le_refl, List.take_succ_cons, List.take_zero, and_self, if_true, Nat.reduceAdd, Nat.reduceLT, eq_self, h4]; done) | (simp -dsimp only [↓SD, SP, ↓reduceIte, Nat.reduceEqDiff, ini, frz, rdAo, rd3o, rd2o, rdpo, rd1o, fnv, intv, VOp.dst, getRo, solEo, solo, solo1, allsz, List.all_cons, List.all_nil, Bool.and_true, beq_self_eq_true, List.length_cons, List.length_nil, Nat.zero_add, srcv, Nat.le_refl, List.take_succ_cons, List.take_zero, and_self, if_true, Nat.reduceAdd, Nat.reduceLT, eq_self, h4]; rfl) | rfl) (by first | (simp -dsimp only [↓SD, SP, ↓reduceIte, Nat.reduceEqDiff, ini, frz, rdAo, rd3o, rd2o, rdpo, rd1o, fnv, intv, VOp.dst, getRo, solEo, solo, solo1, allsz, List.all_cons, List.all_nil, Bool.and_true, beq_self_eq_true, List.length_cons, List.length_nil, Nat.zero_add, srcv, Nat.le_refl, List.take_succ_cons, List.take_zero, and_self, if_true, Nat.reduceAdd, Nat.reduceLT, eq_self, hH4]; done) | (simp -dsimp only [↓SD, SP, ↓reduceIte, Nat.reduceEqDiff, ini, frz, rdAo, rd3o, rd2o, rdpo, rd1o, fnv, intv, VOp.dst, getRo, solEo, solo, solo1, allsz, List.all_cons, List.all_nil, Bool.and_true, beq_self_eq_true, List.length_cons, List.length_nil, Nat.zero_add, srcv, Nat.le_refl, List.take_succ_cons, List.take_zero, and_self, if_true, Nat.reduceAdd, Nat.reduceLT, eq_self, hH4]; rfl) | rfl) (by first | (simp -dsimp only [↓SD, SP, ↓reduceIte, Nat.reduceEqDiff, ini, frz, rdAo, rd3o, rd2o, rdpo, rd1o, fnv, intv, VOp.dst, getRo, solEo, solo, solo1, allsz, List.all_cons, List.all_nil, Bool.and_true, beq_self_eq_true, List.length_cons, List.length_nil, Nat.zero_add, srcv, Nat.le_refl, List.take_succ_cons, List.take_zero, and_self, if_true, Nat.reduceAdd, Nat.reduceLT, eq_self, Int.natCast_add, Int.natCast_one]; done) | (simp -dsimp only [↓SD, SP, ↓reduceIte, Nat.reduceEqDiff, ini, frz, rdAo, rd3o, rd2o, rdpo, rd1o, fnv, intv, VOp.dst, getRo, solEo, solo, solo1, allsz, List.all_cons, List.all_nil, Bool.and_true, beq_self_eq_true, List.length_cons, List.length_nil, Nat.zero_add, srcv, Nat.le_refl, List.take_succ_cons, List.take_zero, and_self, if_true, Nat.reduceAdd, Nat.reduceLT, eq_self, Int.natCast_add, Int.natCast_one]; rfl) | rfl)
        · simp -dsimp only [↓SD, SP, ↓reduceIte, Nat.reduceEqDiff, ini, frz, rdAo, rd3o, rd2o, rdpo, rd1o, fnv, intv, VOp.dst, getRo, solEo, solo, solo1, allsz, List.all_cons, List.all_nil, Bool.and_true, beq_self_eq_true, List.length_cons, List.length_nil, Nat.zero_add, srcv, Nat.le_refl, List.take_succ_cons, List.take_zero, and_self, if_true, Nat.reduceAdd, Nat.reduceLT, eq_self, fa_o, ↓ldv_f, ↓ldv_n, ↓stv_f, ↓stv_a, fldv, setf, bldv, small, Bool.true_and, List.getElem?_cons_zero, List.getElem?_cons_succ, List.set_cons_zero, List.set_cons_succ, Bool.false_eq_true, if_false, true_and, and_true, reduceCtorEq, false_implies, implies_true, forall_const, h4, h5, hH4, ↓fv_c0, l_ints, Int.ofNat_lt, hk]
          exact hQ2 _ _ _ _ (.inl ⟨rfl, h1, h3, hH, h4, hH4, by unfold parOkS; rw [allI_yes (fun j hj f hf => hok2 j (by omega) f hf), Bool.true_and]⟩)
    · simp -dsimp only [↓SD, SP, ↓reduceIte, Nat.reduceEqDiff, ini, frz, rdAo, rd3o, rd2o, rdpo, rd1o, fnv, intv, VOp.dst, getRo, solEo, solo, solo1, allsz, List.all_cons, List.all_nil, Bool.and_true, beq_self_eq_true, List.length_cons, List.length_nil, Nat.zero_add, srcv, Nat.le_refl, List.take_succ_cons, List.take_zero, and_self, if_true, Nat.reduceAdd, Nat.reduceLT, eq_self, fa_o, ↓ldv_f, ↓ldv_n, ↓stv_f, ↓stv_a, fldv, setf, bldv, small, Bool.true_and, List.getElem?_cons_zero, List.getElem?_cons_succ, List.set_cons_zero, List.set_cons_succ, Bool.false_eq_true, if_false, true_and, and_true, reduceCtorEq, false_implies, implies_true, forall_const, h1, h3, hH, ↓fv_r0, l_lv, Int.ofNat_lt, hi]
      exact hQ _ _ _ _ (.inl ⟨rfl, h1, hH, allI_yes fun j hj f hf => hok j (by omega) f hf⟩)
theorem s_specRepoOk (x : RepoL) (ho : okR x) : OK Go.Proofs.Tryd.prog 9 [repoV x] (fun _ _ r => r = .bool (repoOk x)) := by
  refine fn_ok k9 rfl ?_
  have h1 := s_l7Ok x ho
  generalize OK Go.Proofs.Tryd.prog = L at *
  intro lo
  simp -dsimp only [↓SD, SP, ↓reduceIte, Nat.reduceEqDiff, ini, frz, rdAo, rd3o, rd2o, rdpo, rd1o, fnv, intv, VOp.dst, getRo, solEo, solo, solo1, allsz, List.all_cons, List.all_nil, Bool.and_true, beq_self_eq_true, List.length_cons, List.length_nil, Nat.zero_add, srcv, Nat.le_refl, List.take_succ_cons, List.take_zero, and_self, if_true, Nat.reduceAdd, Nat.reduceLT, eq_self, c9, sz_repo]
  refine bal_mk fun b hb => ?_
  have fr : fitsz (some 2) (repoV x) = true := by simp [fitsz, repoV]
  simp -dsimp only [↓SD, SP, ↓reduceIte, Nat.reduceEqDiff, ini, frz, rdAo, rd3o, rd2o, rdpo, rd1o, fnv, intv, VOp.dst, getRo, solEo, solo, solo1, allsz, List.all_cons, List.all_nil, Bool.and_true, beq_self_eq_true, List.length_cons, List.length_nil, Nat.zero_add, srcv, Nat.le_refl, List.take_succ_cons, List.take_zero, and_self, if_true, Nat.reduceAdd, Nat.reduceLT, eq_self, fa_o, ↓ldv_f, ↓ldv_n, ↓stv_f, ↓stv_a, fldv, setf, bldv, small, Bool.true_and, List.getElem?_cons_zero, List.getElem?_cons_succ, List.set_cons_zero, List.set_cons_succ, Bool.false_eq_true, if_false, true_and, and_true, reduceCtorEq, false_implies, implies_true, forall_const, fr, ↓rd_repo, ↓r_any]
  refine call_rule h1 ?_
  rintro lo1 hi1 r - - rfl
  simp -dsimp only [↓SD, SP, ↓reduceIte, Nat.reduceEqDiff, ini, frz, rdAo, rd3o, rd2o, rdpo, rd1o, fnv, intv, VOp.dst, getRo, solEo, solo, solo1, allsz, List.all_cons, List.all_nil, Bool.and_true, beq_self_eq_true, List.length_cons, List.length_nil, Nat.zero_add, srcv, Nat.le_refl, List.take_succ_cons, List.take_zero, and_self, if_true, Nat.reduceAdd, Nat.reduceLT, eq_self]
end Go.AVM
