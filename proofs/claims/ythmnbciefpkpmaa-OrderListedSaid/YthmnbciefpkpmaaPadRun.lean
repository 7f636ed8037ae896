/- Runs of padded programs, in plain Lean. -/
import Derived.Test.YthmnbciefpkpmaaCodeT
import Derived.Test.YthmnbciefpkpmaaPad
namespace Go.Proofs.Ythmnbciefpkpmaa

theorem padP_len (l : List Ins) (n : Nat) : (padP l n).length = l.length + n := by simp [padP]

theorem padP_get {l : List Ins} {n k : Nat} (h : k < l.length) : (padP l n).getD k default = l.getD k default := by
  simp [padP, List.getD_eq_getElem?_getD, List.getElem?_append_left h]

theorem padP_move {l : List Ins} {n k : Nat} (h : l.length ≤ k) (h2 : k < l.length + n) : (padP l n).getD k default = moveIns := by
  have : k - l.length < n := by omega
  simp [padP, List.getD_eq_getElem?_getD, List.getElem?_append_right h, this]

theorem set_self {r : List T} (h : 0 < r.length) : r.set 0 (r.getD 0 .nil) = r := by
  cases r with
  | nil => simp at h
  | cons a r => simp

/-- the moves behind a program -/
theorem pad_moves (l : List Ins) (n : Nat) : ∀ (j : Nat) (r : List T) (most k : Nat), j ≤ n → 0 < r.length → ∃ ms, runP (padP l n) j (l.length + n - j) r most k = (r.getD 0 .nil, k + j, 0, ms)
  | 0, r, most, k, _, _ => ⟨most, by rw [runP, if_pos (by rw [padP_len]; omega)]; simp⟩
  | j + 1, r, most, k, hj, hr => by
    rw [runP_step _ _ _ _ _ _ (by rw [padP_len]; omega), padP_move (by omega) (by omega)]
    have h1 : stepV moveIns r = some (r.getD 0 .nil) := by simp [stepV, moveIns]
    unfold runNext
    rw [h1]
    have h2 : r.set moveIns.a.toNat (r.getD 0 .nil) = r := by simpa [moveIns] using set_self hr
    have h3 : stepA moveIns (l.length + n - (j + 1)) (r.getD 0 .nil) = l.length + n - j := by
      simp [stepA, moveIns]; omega
    simp only [h2, h3]
    obtain ⟨ms, h⟩ := pad_moves l n j r (max most (sizes r)) (k + 1) (by omega) hr
    exact ⟨ms, by rw [h]; congr 2; omega⟩

theorem step_in {most chars : Int} {l : List Ins} (h : goodP most chars l = true) {at_ : Nat} (ha : at_ < l.length) (y : T) : stepA (l.getD at_ default) at_ y ≤ l.length := by
  have hi := (insOk_cases (goodP_ins h at_ ha).1).2
  unfold stepA
  split
  · rename_i h5
    rcases hi with ⟨h, _⟩ | ⟨h, _⟩ | ⟨h, _⟩ | ⟨_, h1, h2⟩
    · omega
    · omega
    · omega
    · omega
  · omega

theorem len_set (r : List T) (i : Nat) (y : T) (h : 0 < r.length) : 0 < (r.set i y).length := by simpa using h

/-- a run that ends, in the padded program -/
theorem pad_ends {mst chars : Int} {l : List Ins} (hg : goodP mst chars l = true) (n : Nat) : ∀ (f at_ : Nat) (r : List T) (m1 m2 k k' ms : Nat) (y : T), at_ ≤ l.length → 0 < r.length →
    runP l f at_ r m1 k = (y, k', 0, ms) → k ≤ k' ∧ k' ≤ k + f ∧ ∃ ms', runP (padP l n) (k' - k + n) at_ r m2 k = (y, k' + n, 0, ms') := by
  intro f
  induction f with
  | zero =>
    intro at_ r m1 m2 k k' ms y ha hr h
    rw [runP] at h
    split at h
    · rename_i he
      simp only [Prod.mk.injEq] at h
      obtain ⟨rfl, rfl, _, _⟩ := h
      obtain ⟨ms', hp⟩ := pad_moves l n n r m2 k (Nat.le_refl _) hr
      refine ⟨Nat.le_refl _, Nat.le_refl _, ms', ?_⟩
      rw [Nat.sub_self, Nat.zero_add, he]
      simpa using hp
    · simp at h
  | succ f ih =>
    intro at_ r m1 m2 k k' ms y ha hr h
    by_cases he : at_ = l.length
    · rw [runP, if_pos he] at h
      simp only [Prod.mk.injEq] at h
      obtain ⟨rfl, rfl, _, _⟩ := h
      obtain ⟨ms', hp⟩ := pad_moves l n n r m2 k (Nat.le_refl _) hr
      refine ⟨Nat.le_refl _, by omega, ms', ?_⟩
      rw [Nat.sub_self, Nat.zero_add, he]
      simpa using hp
    · have hlt : at_ < l.length := by omega
      rw [runP_step _ _ _ _ _ _ he] at h
      unfold runNext at h
      cases hs : stepV (l.getD at_ default) r with
      | none => rw [hs] at h; simp at h
      | some z =>
        rw [hs] at h
        simp only at h
        obtain ⟨h1, h2, ms', h3⟩ := ih (stepA (l.getD at_ default) at_ z) (r.set (l.getD at_ default).a.toNat z) _ (max m2 (sizes (r.set (l.getD at_ default).a.toNat z))) (k + 1) k' ms y (step_in hg hlt z) (len_set _ _ _ hr) h
        refine ⟨by omega, by omega, ms', ?_⟩
        have e : k' - k + n = (k' - (k + 1) + n) + 1 := by omega
        rw [e, runP_step _ _ _ _ _ _ (by rw [padP_len]; omega), padP_get hlt]
        unfold runNext
        rw [hs]
        exact h3

/-- a run that has not ended -/
theorem pad_goes {mst chars : Int} {l : List Ins} (hg : goodP mst chars l = true) (n : Nat) : ∀ (f at_ : Nat) (r : List T) (m1 m2 k k' ms : Nat) (y : T), at_ ≤ l.length →
    runP l f at_ r m1 k = (y, k', 1, ms) → ∃ y' k2 h' ms', runP (padP l n) f at_ r m2 k = (y', k2, h', ms') ∧ h' ≠ 0 := by
  intro f
  induction f with
  | zero =>
    intro at_ r m1 m2 k k' ms y ha h
    rw [runP] at h
    split at h
    · simp at h
    · rename_i he
      exact ⟨.nil, k, 1, m2, by rw [runP, if_neg (by rw [padP_len]; omega)], by decide⟩
  | succ f ih =>
    intro at_ r m1 m2 k k' ms y ha h
    by_cases he : at_ = l.length
    · rw [runP, if_pos he] at h
      simp at h
    · have hlt : at_ < l.length := by omega
      rw [runP_step _ _ _ _ _ _ he] at h
      unfold runNext at h
      cases hs : stepV (l.getD at_ default) r with
      | none => rw [hs] at h; simp at h
      | some z =>
        rw [hs] at h
        simp only at h
        obtain ⟨y', k2, h', ms', h3, h4⟩ := ih (stepA (l.getD at_ default) at_ z) (r.set (l.getD at_ default).a.toNat z) _ (max m2 (sizes (r.set (l.getD at_ default).a.toNat z))) (k + 1) k' ms y (step_in hg hlt z) h
        refine ⟨y', k2, h', ms', ?_, h4⟩
        rw [runP_step _ _ _ _ _ _ (by rw [padP_len]; omega), padP_get hlt]
        unfold runNext
        rw [hs]
        exact h3

theorem insOk_mono {c1 c2 i n1 n2 : Int} {x : Ins} (hc : c1 ≤ c2) (hn : n1 ≤ n2) (h : insOk c1 i n1 x = true) : insOk c2 i n2 x = true := by
  simp only [insOk, Bool.and_eq_true] at h ⊢
  obtain ⟨h1, h2⟩ := h
  refine ⟨h1, ?_⟩
  split at h2
  · rename_i h0
    rw [if_pos h0]
    simp only [Bool.and_eq_true] at h2 ⊢
    refine ⟨?_, h2.2⟩
    have h3 := h2.1
    split at h3
    · simp at h3
    · rw [if_neg (by omega)]; exact h3
  · rename_i h0
    rw [if_neg h0]
    split at h2
    · rename_i h4; rw [if_pos h4]; exact h2
    · rename_i h4
      rw [if_neg h4]
      split at h2
      · rename_i h5; rw [if_pos h5]; exact h2
      · rename_i h5
        rw [if_neg h5]
        split at h2
        · rename_i h6
          rw [if_pos h6]
          simp only [Bool.and_eq_true, decide_eq_true_eq] at h2 ⊢
          exact ⟨h2.1, by omega⟩
        · simp at h2

theorem goodTo_app {c1 c2 n1 n2 : Int} (hc : c1 ≤ c2) (hn : n1 ≤ n2) (r : List Ins) (hr : ∀ (i : Nat) (all : Int), all ≤ c2 → goodTo c2 n2 i all r = true) : ∀ (l : List Ins) (i : Nat) (all : Int), all ≤ c2 → goodTo c1 n1 i all l = true → goodTo c2 n2 i all (l ++ r) = true
  | [], i, all, ha, _ => by simpa using hr i all ha
  | x :: l, i, all, _, h => by
    simp only [goodTo, List.cons_append, Bool.and_eq_true, decide_eq_true_eq] at h ⊢
    obtain ⟨⟨h1, h2⟩, h3⟩ := h
    exact ⟨⟨by omega, insOk_mono hc hn h2⟩, goodTo_app hc hn r hr l (i + 1) _ (by omega) h3⟩

theorem goodTo_moves (c n : Int) : ∀ (m i : Nat) (all : Int), all ≤ c → goodTo c n i all (List.replicate m moveIns) = true
  | 0, _, _, _ => rfl
  | m + 1, i, all, h => by
    simp only [List.replicate_succ, goodTo, Bool.and_eq_true, decide_eq_true_eq]
    have hz : (moveIns.tree.size : Int) = 0 := rfl
    refine ⟨⟨by omega, ?_⟩, goodTo_moves c n m (i + 1) _ (by omega)⟩
    rfl

theorem goodP_pad {m1 m2 c1 c2 : Int} {l : List Ins} {n : Nat} (h : goodP m1 c1 l = true) (hm : m1 + n ≤ m2) (hc : c1 ≤ c2) (hc0 : 0 ≤ c2) : goodP m2 c2 (padP l n) = true := by
  have hl := goodP_len h
  simp only [goodP, Bool.and_eq_true, decide_eq_true_eq, padP_len] at h ⊢
  refine ⟨by omega, ?_⟩
  unfold padP
  exact goodTo_app hc (by omega) _ (fun i all ha => goodTo_moves c2 _ n i all ha) l 0 0 hc0 h.2

theorem goodP_mono {m1 m2 c1 c2 : Int} {l : List Ins} (h : goodP m1 c1 l = true) (hm : m1 ≤ m2) (hc : c1 ≤ c2) (hc0 : 0 ≤ c2) : goodP m2 c2 l = true := by
  have := goodP_pad (n := 0) h (m2 := m2) (by omega) hc hc0
  simpa [padP] using this

theorem codeT_pad_eq {l : List Ins} {n m : Nat} : codeT (padP l n) = codeT (padP l m) ↔ n = m := by
  constructor
  · intro h
    have := congrArg T.spine h
    rw [codeT_spine, codeT_spine, padP_len, padP_len] at this
    omega
  · rintro rfl; rfl

/-- what a run returns is not too large -/
theorem runP_size {mst : Int} {l : List Ins} (hg : goodP mst 2000000 l = true) {M : Nat} (hM : 2000001 ≤ M) : ∀ (f at_ : Nat) (r : List T) (m1 k k' h ms : Nat) (y : T), at_ ≤ l.length →
    (∀ i, i < r.length → (r.getD i .nil).size ≤ M) → runP l f at_ r m1 k = (y, k', h, ms) → y.size ≤ M := by
  intro f
  induction f with
  | zero =>
    intro at_ r m1 k k' h ms y ha hr he
    rw [runP] at he
    split at he <;> simp only [Prod.mk.injEq] at he <;> obtain ⟨rfl, _, _, _⟩ := he
    · exact getD_size hr (by omega) 0
    · simp [T.size]; omega
  | succ f ih =>
    intro at_ r m1 k k' h ms y ha hr he
    by_cases hl : at_ = l.length
    · rw [runP, if_pos hl] at he
      simp only [Prod.mk.injEq] at he
      obtain ⟨rfl, _, _, _⟩ := he
      exact getD_size hr (by omega) 0
    · have hlt : at_ < l.length := by omega
      rw [runP_step _ _ _ _ _ _ hl] at he
      unfold runNext at he
      cases hs : stepV (l.getD at_ default) r with
      | none =>
        rw [hs] at he
        simp only [Prod.mk.injEq] at he
        obtain ⟨rfl, _, _, _⟩ := he
        simp [T.size]; omega
      | some z =>
        rw [hs] at he
        simp only at he
        have hx := (goodP_ins hg at_ hlt).2
        exact ih _ _ _ _ _ _ _ _ (step_in hg hlt z) (set_bound hr (stepV_size hr hM (by omega) hs) _) he

theorem followP_size {mst : Int} {l : List Ins} (hg : goodP mst 2000000 l = true) {x y : T} {M f k h ms : Nat} (hM : 2000001 ≤ M) (hx : x.size ≤ M) (he : followP l x f = (y, k, h, ms)) : y.size ≤ M :=
  runP_size hg hM f 0 (first x) _ 0 k h ms y (Nat.zero_le _) (first_bound hx (by omega)) he

theorem follow_pad_ends {mst chars : Int} {l : List Ins} (hg : goodP mst chars l = true) (n : Nat) {x y : T} {f k ms : Nat} (h : followP l x f = (y, k, 0, ms)) : k ≤ f ∧ ∃ ms', followP (padP l n) x (k + n) = (y, k + n, 0, ms') := by
  have := pad_ends hg n f 0 (first x) _ (x.size + 31) 0 k ms y (Nat.zero_le _) (by simp [first]) h
  obtain ⟨ms', h'⟩ := this.2.2
  exact ⟨by omega, ms', by simpa [followP] using h'⟩

theorem follow_pad_goes {mst chars : Int} {l : List Ins} (hg : goodP mst chars l = true) (n : Nat) {x y : T} {f k ms : Nat} (h : followP l x f = (y, k, 1, ms)) : ∃ y' k2 h' ms', followP (padP l n) x f = (y', k2, h', ms') ∧ h' ≠ 0 :=
  pad_goes hg n f 0 (first x) _ (x.size + 31) 0 k ms y (Nat.zero_le _) h

end Go.Proofs.Ythmnbciefpkpmaa
