/- The order of trees: ranks tell the order, the next tree has the next rank, sums of products; in plain Lean. -/
import Derived.Test.YthmnbciefpkpmaaNext
namespace Go.Proofs.Ythmnbciefpkpmaa
open Go.RowKit

theorem rk_less {l : List UInt8} {k o : Nat} (h : Word l k o) : ∀ {m : List UInt8}, Word m k o → (rk l k o < rk m k o ↔ Op.bytesLess l m = true) := by
  induction h with
  | done => intro m h2; cases h2; simp [Op.bytesLess]
  | @zero l k o h1 ih =>
    intro m h2
    cases h2 with
    | zero h2 =>
      have := ih h2
      simp only [rk, if_pos, Nat.add_sub_cancel, Op.bytesLess]
      rw [this]
      simp
    | one h2 =>
      have := h1.rk_lt
      simp only [rk, if_pos, Nat.add_sub_cancel, Op.bytesLess]
      rw [if_neg (by decide)]
      constructor
      · intro _; rfl
      · intro _; omega
  | @one l k o h1 ih =>
    intro m h2
    cases h2 with
    | zero h2 =>
      have := h2.rk_lt
      simp only [rk, if_pos, Nat.add_sub_cancel, Op.bytesLess]
      rw [if_neg (by decide)]
      constructor
      · intro h; omega
      · intro h; simp at h
    | @one m _ _ h2 =>
      have := ih h2
      simp only [rk, Nat.add_sub_cancel, Op.bytesLess]
      rw [if_neg (by decide), if_neg (by decide)]
      have h3 : (ways (k + 1) o + rk l k (o + 1 + 1) < ways (k + 1) o + rk m k (o + 1 + 1)) ↔ (rk l k (o + 2) < rk m k (o + 2)) := by
        show _ + rk l k (o + 2) < _ + rk m k (o + 2) ↔ _
        omega
      rw [h3, this]
      simp

/-- one tree is before another one -/
def before (l m : List UInt8) : Bool := decide (l.length < m.length) || (decide (l.length = m.length) && Op.bytesLess l m)

theorem rankL_word {l : List UInt8} {k : Nat} (h : Word l k 1) : rankL l = base k + rk l k 1 := by
  have := h.len
  have e : l.length / 2 = k := by omega
  simp only [rankL, e]

theorem rank_less {l m : List UInt8} {a b : Nat} (h1 : Word l a 1) (h2 : Word m b 1) : rankL l < rankL m ↔ before l m = true := by
  rw [rankL_word h1, rankL_word h2]
  have e1 := h1.len
  have e2 := h2.len
  have r1 := h1.rk_lt
  have r2 := h2.rk_lt
  unfold before
  rcases Nat.lt_trichotomy a b with h | h | h
  · have := base_mono (show a + 1 ≤ b by omega)
    simp only [base] at this
    rw [decide_eq_true (show l.length < m.length by omega), Bool.true_or]
    constructor
    · intro _; rfl
    · intro _; omega
  · subst h
    have h3 := rk_less h1 h2
    rw [decide_eq_false (show ¬ l.length < m.length by omega), decide_eq_true (show l.length = m.length by omega), Bool.false_or, Bool.true_and, ← h3]
    omega
  · have := base_mono (show b + 1 ≤ a by omega)
    simp only [base] at this
    rw [decide_eq_false (show ¬ l.length < m.length by omega), decide_eq_false (show ¬ l.length = m.length by omega), Bool.false_or, Bool.false_and]
    constructor
    · intro _; omega
    · intro h; cases h

theorem rank_inj {l m : List UInt8} {a b : Nat} (h1 : Word l a 1) (h2 : Word m b 1) (h : rankL l = rankL m) : l = m := by
  rw [rankL_word h1, rankL_word h2] at h
  have h3 := seek_unique h h1.rk_lt h2.rk_lt
  obtain ⟨rfl, h4⟩ := h3
  have e1 := unr_rk h1
  have e2 := unr_rk h2
  rw [h4] at e1
  rw [← e1, e2]

theorem unrank_some {n : Nat} {l : List UInt8} (h : unrankL n = some l) : ∃ k, k ≤ 30 ∧ Word l k 1 ∧ rankL l = n := by
  unfold unrankL at h
  split at h
  · rename_i hk
    simp only [Option.some.injEq] at h
    have hs := seek_base 31 0 n
    simp only [base, Nat.zero_add] at hs
    have hu := unr_word (seek 31 0 n).1 1 (seek 31 0 n).2 (hs.2.2.2 (by omega))
    rw [h] at hu
    refine ⟨_, hk, hu.1, ?_⟩
    rw [rankL_word hu.1, hu.2]
    exact hs.1.symm
  · simp at h

theorem unrank_lt {n : Nat} (h : n < base 31) : ∃ l, unrankL n = some l := by
  unfold unrankL
  have hs := seek_base 31 0 n
  simp only [base, Nat.zero_add] at hs
  split
  · exact ⟨_, rfl⟩
  · rename_i hk
    exfalso
    have h31 : (seek 31 0 n).1 = 31 := by omega
    rw [h31] at hs
    omega

theorem least_word (k o : Nat) : Word (leastL k (o + 1)) k (o + 1) ∧ rk (leastL k (o + 1)) k (o + 1) = 0 := by
  have h1 : ∀ k, Word ((List.replicate k [(49 : UInt8), 48]).flatten ++ [48]) k 1 ∧ rk ((List.replicate k [(49 : UInt8), 48]).flatten ++ [48]) k 1 = 0 := by
    intro k
    induction k with
    | zero => exact ⟨.zero .done, rfl⟩
    | succ k ih =>
      have e : (List.replicate (k + 1) [(49 : UInt8), 48]).flatten ++ [48] = 49 :: 48 :: ((List.replicate k [(49 : UInt8), 48]).flatten ++ [48]) := by simp [List.replicate_succ]
      rw [e]
      refine ⟨.one (.zero ih.1), ?_⟩
      simp only [rk]
      rw [if_neg (by decide)]
      simp [ways_k0, ih.2]
  unfold leastL
  rw [Nat.add_sub_cancel]
  induction o with
  | zero => simpa using h1 k
  | succ o ih =>
    have e : List.replicate (o + 1) (48 : UInt8) ++ ((List.replicate k [(49 : UInt8), 48]).flatten ++ [48]) = 48 :: (List.replicate o (48 : UInt8) ++ ((List.replicate k [(49 : UInt8), 48]).flatten ++ [48])) := by simp [List.replicate_succ]
    rw [e]
    refine ⟨.zero ih.1, ?_⟩
    simp only [rk]
    simp [ih.2]

/-- one end of a word in the place of another one -/
theorem word_swap : ∀ {u x y : List UInt8} {k o p q : Nat}, Word (u ++ x) k o → Word x p q → Word y p q → Word (u ++ y) k o ∧ rk (u ++ y) k o + rk x p q = rk (u ++ x) k o + rk y p q
  | [], x, y, k, o, p, q, h, hx, hy => by
    have h2 : Word x k o := by simpa using h
    obtain ⟨rfl, rfl⟩ := hx.same h2
    exact ⟨by simpa using hy, by simp; omega⟩
  | c :: u, x, y, k, o, p, q, h, hx, hy => by
    rw [List.cons_append] at h
    cases h with
    | zero h =>
      obtain ⟨h1, h2⟩ := word_swap h hx hy
      refine ⟨.zero h1, ?_⟩
      simp only [List.cons_append, rk, if_pos, Nat.add_sub_cancel]
      exact h2
    | @one _ k2 o2 h =>
      obtain ⟨h1, h2⟩ := word_swap h hx hy
      refine ⟨.one h1, ?_⟩
      simp only [List.cons_append, rk, Nat.add_sub_cancel]
      rw [if_neg (by decide), if_neg (by decide)]
      have e : ∀ v, rk v k2 (o2 + 1 + 1) = rk v k2 (o2 + 2) := fun _ => rfl
      have e1 := e (u ++ x)
      have e2 := e (u ++ y)
      omega

/-- the word behind a word has the next rank -/
theorem nxt_word {l : List UInt8} {K : Nat} (hl : Word l K 1) : ∀ (i p o : Nat), i ≤ l.length → Word (l.drop i) p o → rk (l.drop i) p o + 1 = ways p o →
    ∃ K', Word (nxt l i p o) K' 1 ∧ rankL (nxt l i p o) = rankL l + 1
  | 0, p, o, _, hw, hr => by
    rw [List.drop_zero] at hw hr
    obtain ⟨rfl, rfl⟩ := hl.same hw
    have hlen := hl.len
    have e : l.length / 2 + 1 = p + 1 := by omega
    simp only [nxt]
    rw [e]
    have hL := least_word (p + 1) 0
    refine ⟨p + 1, hL.1, ?_⟩
    rw [rankL_word hL.1, rankL_word hl]
    have h2 : rk (leastL (p + 1) 1) (p + 1) 1 = 0 := hL.2
    rw [h2]
    simp only [base]
    omega
  | i + 1, p, o, hi, hw, hr => by
    have hdrop : l.drop i = l.getD i 0 :: l.drop (i + 1) := by
      rw [List.drop_eq_getElem_cons (by omega)]
      simp [show i < l.length by omega]
    obtain ⟨k', o', hw'⟩ := hl.drop i
    have hlen := hl.len
    simp only [nxt]
    rw [hdrop] at hw'
    generalize hc : l.getD i 0 = c at *
    cases hw' with
    | zero hz =>
      rw [if_neg (by decide)]
      obtain ⟨rfl, rfl⟩ := hw.same hz
      cases k' with
      | zero =>
        rw [if_neg (Nat.lt_irrefl 0)]
        refine nxt_word hl i _ _ (by omega) (by rw [hdrop]; exact .zero hz) ?_
        rw [hdrop]
        simp only [rk, if_pos, Nat.add_sub_cancel]
        rw [hr, ways_zero, ways_zero]
      | succ p =>
        rw [if_pos (Nat.succ_pos p), Nat.add_sub_cancel]
        rename_i o2
        have hL := least_word p (o2 + 1)
        have hnew : Word (49 :: leastL p (o2 + 2)) (p + 1) (o2 + 1) := .one hL.1
        have hold : Word (48 :: l.drop (i + 1)) (p + 1) (o2 + 1) := .zero hz
        have hsplit : l = l.take i ++ 48 :: l.drop (i + 1) := by
          rw [← hdrop, List.take_append_drop]
        have hl2 := hl
        rw [hsplit] at hl2
        obtain ⟨h1, h2⟩ := word_swap hl2 hold hnew
        rw [← hsplit] at h2
        refine ⟨K, h1, ?_⟩
        rw [rankL_word h1, rankL_word hl]
        have h3 : rk (49 :: leastL p (o2 + 2)) (p + 1) (o2 + 1) = ways (p + 1) o2 := by
          simp only [rk, Nat.add_sub_cancel]
          rw [if_neg (by decide)]
          have h4 : rk (leastL p (o2 + 1 + 1)) p (o2 + 1 + 1) = 0 := hL.2
          show _ + rk (leastL p (o2 + 1 + 1)) p (o2 + 1 + 1) = _
          rw [h4, Nat.add_zero]
        have h5 : rk (48 :: l.drop (i + 1)) (p + 1) (o2 + 1) = rk (l.drop (i + 1)) (p + 1) o2 := by
          simp only [rk, if_pos, Nat.add_sub_cancel]
        rw [h3, h5] at h2
        omega
    | one hz =>
      rw [if_pos rfl]
      obtain ⟨h1, h2⟩ := hw.same hz
      subst h1 h2
      rename_i o2
      refine nxt_word hl i _ _ (by omega) (by rw [hdrop]; exact .one hz) ?_
      rw [hdrop]
      show rk (49 :: l.drop (i + 1)) _ (o2 + 1) + 1 = ways _ (o2 + 1)
      simp only [rk, Nat.add_sub_cancel]
      rw [if_neg (by decide), ways_ko]
      show _ + rk (l.drop (i + 1)) _ (o2 + 2) + 1 = _
      omega

/-- the tree that follows -/
def nextL (l : List UInt8) : List UInt8 := nxt l l.length 0 0

theorem nextL_word {l : List UInt8} {k : Nat} (h : Word l k 1) : ∃ k', Word (nextL l) k' 1 ∧ rankL (nextL l) = rankL l + 1 := by
  refine nxt_word h l.length 0 0 (Nat.le_refl _) ?_ ?_
  · rw [List.drop_length]; exact .done
  · rw [List.drop_length]; simp [rk, ways_00]

/-- sums of products -/
def conv (k a b : Nat) : Nat → Nat
  | 0 => 0
  | j + 1 => conv k a b j + ways j a * ways (k - j) b

theorem conv_zero (k b : Nat) : ∀ j, 1 ≤ j → conv k 0 b j = ways k b
  | 1, _ => by simp [conv, ways_00]
  | j + 2, _ => by
    rw [conv, conv_zero k b (j + 1) (by omega), ways_k0]
    omega

theorem conv_step (k a b : Nat) : ∀ j, j ≤ k + 1 → conv (k + 1) (a + 1) b (j + 1) = conv (k + 1) a b (j + 1) + conv k (a + 2) b j
  | 0, _ => by simp [conv, ways_zero]
  | j + 1, h => by
    have ih := conv_step k a b j (by omega)
    rw [conv.eq_def (k + 1) (a + 1) b (j + 1 + 1), conv.eq_def (k + 1) a b (j + 1 + 1), conv.eq_def k (a + 2) b (j + 1)]
    simp only
    rw [ih, ways_ko, Nat.add_mul]
    have e : k + 1 - (j + 1) = k - j := by omega
    rw [e]
    omega

theorem conv_ways : ∀ (k a b : Nat), conv k a b (k + 1) = ways k (a + b)
  | k, 0, b => by rw [conv_zero k b (k + 1) (by omega), Nat.zero_add]
  | 0, a + 1, b => by simp [conv, ways_zero]
  | k + 1, a + 1, b => by
    rw [conv_step k a b (k + 1) (by omega), conv_ways (k + 1) a b, conv_ways k (a + 2) b]
    have e : a + 1 + b = (a + b) + 1 := by omega
    have e2 : a + 2 + b = (a + b) + 2 := by omega
    rw [e, e2, ways_ko]
  termination_by k a _ => (k, a)

theorem conv_count (k : Nat) : conv k 1 1 (k + 1) = ways (k + 1) 1 := by
  rw [conv_ways, show (1 : Nat) = 0 + 1 from rfl, ways_ko, ways_k0]
  exact (Nat.zero_add _).symm

end Go.Proofs.Ythmnbciefpkpmaa
