/- Trees of tagged lists: taken over to be written, whole. -/
import Derived.Test.YtnanbjnadkoekaaDoorVW
namespace Go.AVM
set_option linter.unusedSimpArgs false
set_option linter.unusedVariables false
mutual
def ow : AV → AV
  | .lsl (some (b, s)) len _ => .own b b s len
  | .agg fs => .agg (owL fs)
  | x => x
def owL : List AV → List AV
  | [] => []
  | x :: xs => ow x :: owL xs
end
mutual
def bl : AV → List (Nat × Blk)
  | .lsl (some (b, s)) _ xs => (b, ⟨b, s, owL xs, false, false, false⟩) :: blL xs
  | .agg fs => blL fs
  | _ => []
def blL : List AV → List (Nat × Blk)
  | [] => []
  | x :: xs => bl x ++ blL xs
end
mutual
/-- each list in it is tagged -/
def tok : AV → Bool
  | .lsl (some (_, s)) _ xs => decide (0 < s) && tokL xs
  | .agg fs => tokL fs
  | .bool _ => true
  | .int _ _ => true
  | .str _ => true
  | .emp => true
  | _ => false
def tokL : List AV → Bool
  | [] => true
  | x :: xs => tok x && tokL xs
end
mutual
theorem tw1 {B : Nat → Prop} : ∀ (x : AV), tok x = true → ∀ (xs ys : List AV) (l : List (Nat × Blk)), Tw B xs ys l → Tw B (x :: xs) (ow x :: ys) (bl x ++ l)
  | .lsl (some (b, s)) len zs, h, xs, ys, l, hw => by
    simp only [tok, Bool.and_eq_true, decide_eq_true_eq] at h
    exact .lsl b b s len zs (owL zs) xs ys (blL zs) l h.1 (twL zs h.2) hw
  | .agg fs, h, xs, ys, l, hw => .agg fs (owL fs) xs ys (blL fs) l (twL fs (by simpa [tok] using h)) hw
  | .bool b, _, xs, ys, l, hw => .same _ xs ys l (.bool b) hw
  | .int k n, _, xs, ys, l, hw => .same _ xs ys l (.int k n) hw
  | .str s, _, xs, ys, l, hw => .same _ xs ys l (.str s) hw
  | .emp, _, xs, ys, l, hw => .same _ xs ys l .emp hw
  | .lsl none _ _, h, _, _, _, _ => by simp [tok] at h
  | .undef, h, _, _, _, _ => by simp [tok] at h
  | .own _ _ _ _, h, _, _, _, _ => by simp [tok] at h
  | .lptr _, h, _, _, _, _ => by simp [tok] at h
  | .optr _ _ _ _ _, h, _, _, _, _ => by simp [tok] at h
  | .fn _ _, h, _, _, _, _ => by simp [tok] at h
  | .tup _, h, _, _, _, _ => by simp [tok] at h
  | .old _ _, h, _, _, _, _ => by simp [tok] at h
theorem twL {B : Nat → Prop} : ∀ (xs : List AV), tokL xs = true → Tw B xs (owL xs) (blL xs)
  | [], _ => .nil
  | x :: xs, h => by
    simp only [tokL, Bool.and_eq_true] at h
    exact tw1 x h.1 xs (owL xs) (blL xs) (twL xs h.2)
end
mutual
theorem bl_fst : ∀ (x : AV), tok x = true → (bl x).map (·.1) = tags x ∧ ∀ p ∈ bl x, p.2.b = p.1
  | .lsl (some (b, s)) len zs, h => by
    simp only [tok, Bool.and_eq_true, decide_eq_true_eq] at h
    obtain ⟨h1, h2⟩ := blL_fst zs h.2
    refine ⟨by simp [bl, tags, h1], fun p hp => ?_⟩
    simp only [bl] at hp
    rcases List.mem_cons.1 hp with rfl | hp
    · rfl
    · exact h2 p hp
  | .agg fs, h => by
    have := blL_fst fs (by simpa [tok] using h)
    simpa [bl, tags] using this
  | .bool b, _ => by simp [bl, tags]
  | .int k n, _ => by simp [bl, tags]
  | .str s, _ => by simp [bl, tags]
  | .emp, _ => by simp [bl, tags]
  | .lsl none _ _, h => by simp [tok] at h
  | .undef, h => by simp [tok] at h
  | .own _ _ _ _, h => by simp [tok] at h
  | .lptr _, h => by simp [tok] at h
  | .optr _ _ _ _ _, h => by simp [tok] at h
  | .fn _ _, h => by simp [tok] at h
  | .tup _, h => by simp [tok] at h
  | .old _ _, h => by simp [tok] at h
theorem blL_fst : ∀ (xs : List AV), tokL xs = true → (blL xs).map (·.1) = tagsL xs ∧ ∀ p ∈ blL xs, p.2.b = p.1
  | [], _ => by simp [blL, tagsL]
  | x :: xs, h => by
    simp only [tokL, Bool.and_eq_true] at h
    obtain ⟨h1, h2⟩ := bl_fst x h.1
    obtain ⟨h3, h4⟩ := blL_fst xs h.2
    refine ⟨by simp [blL, tagsL, h1, h3], fun p hp => ?_⟩
    simp only [blL] at hp
    rcases List.mem_append.1 hp with hp | hp
    · exact h2 p hp
    · exact h4 p hp
end
mutual
theorem av_of {B : Nat → Prop} : ∀ (x : AV), tok x = true → (∀ b ∈ tags x, ¬ B b) → Av B x
  | .lsl (some (b, s)) len zs, h, hb => by
    simp only [tok, Bool.and_eq_true, decide_eq_true_eq] at h
    simp only [tags] at hb
    exact .lsl b s len zs (hb b List.mem_cons_self) (avL_of zs h.2 fun c hc => hb c (List.mem_cons_of_mem _ hc))
  | .agg fs, h, hb => .agg fs (avL_of fs (by simpa [tok] using h) (by simpa [tags] using hb))
  | .bool b, _, _ => .bool b
  | .int k n, _, _ => .int k n
  | .str s, _, _ => .str s
  | .emp, _, _ => .emp
  | .lsl none _ _, h, _ => by simp [tok] at h
  | .undef, h, _ => by simp [tok] at h
  | .own _ _ _ _, h, _ => by simp [tok] at h
  | .lptr _, h, _ => by simp [tok] at h
  | .optr _ _ _ _ _, h, _ => by simp [tok] at h
  | .fn _ _, h, _ => by simp [tok] at h
  | .tup _, h, _ => by simp [tok] at h
  | .old _ _, h, _ => by simp [tok] at h
theorem avL_of {B : Nat → Prop} : ∀ (xs : List AV), tokL xs = true → (∀ b ∈ tagsL xs, ¬ B b) → ∀ x ∈ xs, Av B x
  | [], _, _ => by simp
  | x :: xs, h, hb => by
    simp only [tokL, Bool.and_eq_true] at h
    simp only [tagsL] at hb
    have h1 := av_of x h.1 fun b hb' => hb b (List.mem_append_left _ hb')
    have h2 := avL_of xs h.2 (fun b hb' => hb b (List.mem_append_right _ hb'))
    intro y hy
    rcases List.mem_cons.1 hy with e | hy
    · rw [e]; exact h1
    · exact h2 y hy
end
mutual
theorem bl_fz : ∀ (x : AV), ∀ p ∈ bl x, p.2.fz = false
  | .lsl (some (b, s)) len zs => by
    have h1 := blL_fz zs
    intro p hp
    simp only [bl] at hp
    rcases List.mem_cons.1 hp with e | hp
    · rw [e]
    · exact h1 p hp
  | .agg fs => by
    have h1 := blL_fz fs
    simpa [bl] using h1
  | .bool b => by simp [bl]
  | .int k n => by simp [bl]
  | .str s => by simp [bl]
  | .emp => by simp [bl]
  | .lsl none _ _ => by simp [bl]
  | .undef => by simp [bl]
  | .own _ _ _ _ => by simp [bl]
  | .lptr _ => by simp [bl]
  | .optr _ _ _ _ _ => by simp [bl]
  | .fn _ _ => by simp [bl]
  | .tup _ => by simp [bl]
  | .old _ _ => by simp [bl]
theorem blL_fz : ∀ (xs : List AV), ∀ p ∈ blL xs, p.2.fz = false
  | [] => by simp [blL]
  | x :: xs => by
    have h1 := bl_fz x
    have h2 := blL_fz xs
    intro p hp
    simp only [blL] at hp
    rcases List.mem_append.1 hp with hp | hp
    · exact h1 p hp
    · exact h2 p hp
end
theorem tokL_iff (xs : List AV) : tokL xs = true ↔ ∀ x ∈ xs, tok x = true := by
  induction xs with
  | nil => simp [tokL]
  | cons x xs ih => simp [tokL, ih]
theorem tokL_app (xs ys : List AV) : tokL (xs ++ ys) = (tokL xs && tokL ys) := by
  induction xs with
  | nil => simp [tokL]
  | cons x xs ih => simp [tokL, ih, Bool.and_assoc]
theorem tokL_strs (xs : List ByteArray) : tokL (xs.map .str) = true := (tokL_iff _).2 fun x hx => by
  obtain ⟨s, _, rfl⟩ := List.mem_map.1 hx
  rfl
theorem owL_map (xs : List AV) : owL xs = xs.map ow := by
  induction xs with
  | nil => rfl
  | cons x xs ih => simp [owL, ih]
theorem blL_none {xs : List AV} (h : ∀ x ∈ xs, bl x = []) : blL xs = [] := by
  induction xs with
  | nil => rfl
  | cons x xs ih => simp [blL, h x List.mem_cons_self, ih fun y hy => h y (List.mem_cons_of_mem _ hy)]
theorem blL_app (xs ys : List AV) : blL (xs ++ ys) = blL xs ++ blL ys := by
  induction xs with
  | nil => rfl
  | cons x xs ih => simp [blL, ih]
/-- the heap holds the tree -/
def Holds (H : Hp) (x : AV) : Prop := ∀ p ∈ bl x, H p.1 = some p.2
def treeH (x : AV) : Hp := fun q => (bl x).lookup q
theorem lookup_mem {l : List (Nat × Blk)} {q : Nat} {k : Blk} (h : l.lookup q = some k) : (q, k) ∈ l := by
  induction l with
  | nil => cases h
  | cons p l ih =>
    obtain ⟨d, b⟩ := p
    simp only [List.lookup] at h
    split at h
    · rename_i he
      obtain rfl : q = d := by simpa using he
      obtain rfl := Option.some.inj h
      exact List.mem_cons_self
    · exact List.mem_cons_of_mem _ (ih h)
theorem mem_lookup {l : List (Nat × Blk)} (hn : (l.map (·.1)).Nodup) {p : Nat × Blk} (h : p ∈ l) : l.lookup p.1 = some p.2 := by
  induction l with
  | nil => cases h
  | cons a l ih =>
    obtain ⟨d, b⟩ := a
    simp only [List.map_cons, List.nodup_cons] at hn
    simp only [List.lookup]
    rcases List.mem_cons.1 h with rfl | h
    · simp
    · have hne : ¬ p.1 = d := fun e => hn.1 (e ▸ List.mem_map.2 ⟨p, h, rfl⟩)
      have : (p.1 == d) = false := by simpa using hne
      rw [this]
      exact ih hn.2 h
theorem treeH_holds {x : AV} (h : tok x = true) (hn : (tags x).Nodup) : Holds (treeH x) x := fun p hp => mem_lookup (by rw [(bl_fst x h).1]; exact hn) hp
theorem treeH_fz {x : AV} : ∀ d k, treeH x d = some k → k.fz = false := fun d k h => by
  exact bl_fz x _ (lookup_mem h)

theorem callm_all {l : FuncId → Law} {m : FuncId → LawM} {gh : Env → Hp → Nat → Env → Hp → Prop} {g : FuncId} {args : List AV} {H : Hp} {n : Nat} {C : Nat → Nat → AV → Hp → Prop} {R : Nat → Nat → AV → Hp → Prop} (h : m g args H R) (hf : ∀ d k, H d = some k → k.fz = false)
    (hk : ∀ lo hi r H', n ≤ lo → lo ≤ hi → R lo hi r H' → C lo hi r H') : bcallm ⟨l, m, gh⟩ g args H n C := by
  have e1 : givenH (fun _ => true) H = H := by funext d; simp [givenH]
  refine ⟨fun _ => true, R, by rw [e1]; exact h, fun d k _ hd => hf d k hd, fun lo hi r H' g1 g2 hr => ⟨fun _ _ _ => rfl, ?_⟩⟩
  have e2 : backH (fun _ => true) H H' = H' := by funext d; simp [backH]
  rw [e2]
  exact hk lo hi r H' g1 g2 hr
/-- a tree is taken over; nothing else may be written from here on; of the other values those in kp are kept -/
theorem gh_tree {l : FuncId → Law} {m : FuncId → LawM} {lo nt n : Nat} {E : Env} {H : Hp} {C : Env → Hp → Prop} (t : Nat) (kp : List Nat) {x : AV} (hx : tok x = true) (ht : t < nt) (hE : E t = x) (hz : x.sz ≠ 0) (hlo : ∀ b ∈ tags x, lo ≤ b)
    (hkp : ∀ q ∈ kp, Av (fun b => b ∈ tags x) (E q)) (hk : C (fun q => if q = t then ow x else if q ∈ kp then E q else .undef) (treeH x)) : bgh ⟨l, m, GH lo nt⟩ E H n C := by
  refine ghost_rule (L := ⟨l, m, GH lo nt⟩) _ (treeH x) ?_ hk
  intro w0 S a w hlo0 hsr
  have h0 := hsr.sub (H1 := fun _ => none) (fun d k h => by cases h)
  obtain ⟨h1, h2⟩ := bl_fst x hx
  have hmem : ∀ p ∈ bl x, p.2.b ∈ tags x := fun p hp => by rw [h2 p hp, ← h1]; exact List.mem_map.2 ⟨p, hp, rfl⟩
  have hTw : Tw (fun b => b ∈ tags x) [x] [ow x] (bl x) := by
    have := tw1 (B := fun b => b ∈ tags x) x hx [] [] [] .nil
    rwa [List.append_nil] at this
  refine thaw (fun b => b ∈ tags x) [x] [ow x] (bl x) [t] hTw rfl ?_ (fun p hp => ⟨hmem p hp, hlo _ (hmem p hp)⟩) (fun p hp q hq e => by rw [h2 p hp, h2 q hq] at e; exact e) (fun d k h => by cases h) ?_ (fun d k h => .inl (lookup_mem h)) w0 S a w hlo0 h0
  · rintro (_ | i) t' x' g1 g2
    · obtain rfl : t = t' := by simpa using g1
      obtain rfl : x = x' := by simpa using g2
      exact ⟨ht, hE, hz⟩
    · simp at g1
  · intro t' _
    by_cases h : t' = t
    · subst h
      exact .inr (.inr ⟨0, rfl, by simp⟩)
    · by_cases h2 : t' ∈ kp
      · exact .inr (.inl ⟨by simp [h, h2], hkp t' h2⟩)
      · exact .inl (by simp [h, h2])
/-- a state told by a list -/
def envL : List (Nat × AV) → Env
  | [] => fun _ => .undef
  | (a, v) :: l => fun q => if q = a then v else envL l q
theorem envL_cons (a : Nat) (v : AV) (l : List (Nat × AV)) (q : Nat) : envL ((a, v) :: l) q = if q = a then v else envL l q := Eq.trans rfl rfl
theorem envL_nil (q : Nat) : envL [] q = .undef := Eq.trans rfl rfl
inductive KPs (E : Env) (B : Nat → Prop) : List (Nat × AV) → Prop
  | nil : KPs E B []
  | cons {a : Nat} {v : AV} {l : List (Nat × AV)} (h : E a = v) (hv : Av B v) (hl : KPs E B l) : KPs E B ((a, v) :: l)
theorem KPs.get {E : Env} {B : Nat → Prop} {l : List (Nat × AV)} (h : KPs E B l) (q : Nat) : envL l q = .undef ∨ (envL l q = E q ∧ Av B (E q)) := by
  induction h with
  | nil => exact .inl rfl
  | cons h hv hl ih =>
    rw [envL_cons]
    split
    · rename_i hq
      subst hq
      exact .inr ⟨h.symm, by rw [h]; exact hv⟩
    · exact ih
theorem gh_treeL {l : FuncId → Law} {m : FuncId → LawM} {lo nt n : Nat} {E : Env} {H : Hp} {C : Env → Hp → Prop} (t : Nat) (kp : List (Nat × AV)) {x : AV} (hx : tok x = true) (ht : t < nt) (hE : E t = x) (hz : x.sz ≠ 0) (hlo : ∀ b ∈ tags x, lo ≤ b)
    (hkp : KPs E (fun b => b ∈ tags x) kp) (hk : C (envL ((t, ow x) :: kp)) (treeH x)) : bgh ⟨l, m, GH lo nt⟩ E H n C := by
  refine ghost_rule (L := ⟨l, m, GH lo nt⟩) _ (treeH x) ?_ hk
  intro w0 S a w hlo0 hsr
  have h0 := hsr.sub (H1 := fun _ => none) (fun d k h => by cases h)
  obtain ⟨h1, h2⟩ := bl_fst x hx
  have hmem : ∀ p ∈ bl x, p.2.b ∈ tags x := fun p hp => by rw [h2 p hp, ← h1]; exact List.mem_map.2 ⟨p, hp, rfl⟩
  have hTw : Tw (fun b => b ∈ tags x) [x] [ow x] (bl x) := by
    have := tw1 (B := fun b => b ∈ tags x) x hx [] [] [] .nil
    rwa [List.append_nil] at this
  refine thaw (fun b => b ∈ tags x) [x] [ow x] (bl x) [t] hTw rfl ?_ (fun p hp => ⟨hmem p hp, hlo _ (hmem p hp)⟩) (fun p hp q hq e => by rw [h2 p hp, h2 q hq] at e; exact e) (fun d k h => by cases h) ?_ (fun d k h => .inl (lookup_mem h)) w0 S a w hlo0 h0
  · rintro (_ | i) t' x' g1 g2
    · obtain rfl : t = t' := by simpa using g1
      obtain rfl : x = x' := by simpa using g2
      exact ⟨ht, hE, hz⟩
    · simp at g1
  · intro t' _
    rw [envL_cons]
    by_cases h : t' = t
    · subst h
      exact .inr (.inr ⟨0, rfl, by simp⟩)
    · rw [if_neg h]
      rcases hkp.get t' with h | ⟨h1, h2⟩
      · exact .inl h
      · exact .inr (.inl ⟨h1, h2⟩)
end Go.AVM
