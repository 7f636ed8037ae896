/- The order of trees in plain Lean: how many words go on, ranks, and the tree with a rank. -/
import Derived.Test.YthmnbciefpkpmaaScan
namespace Go.Proofs.Ythmnbciefpkpmaa

/-- in how many ways words go on: pairs left, trees that have not ended -/
def ways : Nat → Nat → Nat
  | 0, 0 => 1
  | _ + 1, 0 => 0
  | 0, o + 1 => ways 0 o
  | k + 1, o + 1 => ways (k + 1) o + ways k (o + 2)
  termination_by k o => (k, o)

theorem ways_00 : ways 0 0 = 1 := by simp [ways]
theorem ways_k0 (k : Nat) : ways (k + 1) 0 = 0 := by simp [ways]
theorem ways_0o (o : Nat) : ways 0 (o + 1) = ways 0 o := by rw [ways]
theorem ways_ko (k o : Nat) : ways (k + 1) (o + 1) = ways (k + 1) o + ways k (o + 2) := by rw [ways]

theorem ways_zero : ∀ o, ways 0 o = 1
  | 0 => ways_00
  | o + 1 => by rw [ways_0o, ways_zero o]

theorem ways_mono (k o : Nat) : ways k o ≤ ways k (o + 1) := by
  cases k with
  | zero => rw [ways_0o]; exact Nat.le_refl _
  | succ k => rw [ways_ko]; omega

theorem ways_le : ∀ (k o : Nat), ways k o ≤ 2 ^ (2 * k + o)
  | 0, o => by rw [ways_zero]; exact Nat.one_le_two_pow
  | k + 1, 0 => by rw [ways_k0]; exact Nat.zero_le _
  | k + 1, o + 1 => by
    have h1 := ways_le (k + 1) o
    have h2 := ways_le k (o + 2)
    rw [ways_ko]
    have e1 : 2 * (k + 1) + (o + 1) = (2 * (k + 1) + o) + 1 := by omega
    have e2 : 2 * k + (o + 2) = 2 * (k + 1) + o := by omega
    rw [e1, Nat.pow_succ]
    rw [e2] at h2
    omega
  termination_by k o => (k, o)

theorem ways_lim {k o : Nat} (h : k + o ≤ 31) (hk : k ≤ 30) : ways k o ≤ 2305843009213693952 := by
  refine Nat.le_trans (ways_le k o) ?_
  refine Nat.le_trans (Nat.pow_le_pow_right (by decide) (show 2 * k + o ≤ 61 by omega)) (by decide)

/-- how many trees have fewer than so many pairs -/
def base : Nat → Nat
  | 0 => 0
  | k + 1 => base k + ways k 1

theorem base_lim : ∀ k : Nat, base k ≤ 2 ^ (2 * k)
  | 0 => by simp [base]
  | k + 1 => by
    have h1 := base_lim k
    have h2 := ways_le k 1
    simp only [base]
    have e : 2 * (k + 1) = 2 * k + 1 + 1 := by omega
    rw [e, Nat.pow_succ, Nat.pow_succ]
    rw [Nat.pow_succ] at h2
    omega

theorem base_lim31 {k : Nat} (h : k ≤ 31) : base k ≤ 4611686018427387904 := by
  refine Nat.le_trans (base_lim k) ?_
  refine Nat.le_trans (Nat.pow_le_pow_right (by decide) (show 2 * k ≤ 62 by omega)) (by decide)

theorem base_mono {a b : Nat} (h : a ≤ b) : base a ≤ base b := by
  induction b with
  | zero => have : a = 0 := by omega
            subst this; exact Nat.le_refl _
  | succ b ih =>
    rcases Nat.lt_or_ge b a with h1 | h1
    · have : a = b + 1 := by omega
      subst this; exact Nat.le_refl _
    · have := ih h1
      simp only [base]; omega

/-- how many ones -/
def ones (l : List UInt8) : Nat := l.countP (fun c => c == 49)

/-- the rank of a word among those that go on alike -/
def rk : List UInt8 → Nat → Nat → Nat
  | [], _, _ => 0
  | c :: l, k, o => if c = 48 then rk l k (o - 1) else ways k (o - 1) + rk l (k - 1) (o + 1)

/-- a word that ends after some trees, with some pairs -/
inductive Word : List UInt8 → Nat → Nat → Prop
  | done : Word [] 0 0
  | zero {l : List UInt8} {k o : Nat} : Word l k o → Word (48 :: l) k (o + 1)
  | one {l : List UInt8} {k o : Nat} : Word l k (o + 2) → Word (49 :: l) (k + 1) (o + 1)

theorem Word.len {l : List UInt8} {k o : Nat} (h : Word l k o) : l.length = 2 * k + o := by
  induction h <;> simp <;> omega

theorem Word.rk_lt {l : List UInt8} {k o : Nat} (h : Word l k o) : rk l k o < ways k o := by
  induction h with
  | done => simp [rk, ways_00]
  | @zero l k o h ih =>
    simp only [rk, if_pos]
    have := ways_mono k o
    simp; omega
  | @one l k o h ih =>
    simp only [rk]
    rw [if_neg (by decide), ways_ko]
    simp; omega

theorem word_scan : ∀ (l : List UInt8) (o : Nat), scan l o = some l.length → ∃ k, Word l k o
  | [], 0, _ => ⟨0, .done⟩
  | [], o + 1, h => by simp [scan] at h
  | c :: l, 0, h => by rw [scan_zero] at h; simp at h
  | c :: l, o + 1, h => by
    simp only [scan] at h
    split at h
    · rename_i hc
      simp only [Option.map_eq_some_iff] at h
      obtain ⟨m, hm, hmm⟩ := h
      obtain ⟨k, hk⟩ := word_scan l o (by rw [hm]; congr 1; simpa using hmm)
      exact ⟨k, hc ▸ .zero hk⟩
    · split at h
      · rename_i hc
        simp only [Option.map_eq_some_iff] at h
        obtain ⟨m, hm, hmm⟩ := h
        obtain ⟨k, hk⟩ := word_scan l (o + 2) (by rw [hm]; congr 1; simpa using hmm)
        exact ⟨k + 1, hc ▸ .one hk⟩
      · simp at h

theorem Word.scan {l : List UInt8} {k o : Nat} (h : Word l k o) : scan l o = some l.length := by
  induction h with
  | done => rfl
  | @zero l k o h ih => simp [Go.Proofs.Ythmnbciefpkpmaa.scan, ih]
  | @one l k o h ih => simp [Go.Proofs.Ythmnbciefpkpmaa.scan, ih]

/-- the rank of a tree -/
def rankL (l : List UInt8) : Nat := base (l.length / 2) + rk l (l.length / 2) 1

theorem validB_word {s : ByteArray} (h : validB s = true) : Word s.data.toList (s.size / 2) 1 ∧ s.size = 2 * (s.size / 2) + 1 := by
  simp only [validB, Bool.and_eq_true, decide_eq_true_eq] at h
  have hs : s.size = s.data.toList.length := by simp
  obtain ⟨k, hk⟩ := word_scan s.data.toList 1 (by rw [h.2, hs])
  have hl := hk.len
  have : s.size / 2 = k := by omega
  rw [this]
  exact ⟨hk, by omega⟩

/-- the pairs of the tree with a rank, and the rank among those -/
def seek : Nat → Nat → Nat → Nat × Nat
  | 0, k, n => (k, n)
  | f + 1, k, n => if n < ways k 1 then (k, n) else seek f (k + 1) (n - ways k 1)

/-- the word with a rank -/
def unr : Nat → Nat → Nat → List UInt8
  | _, 0, _ => []
  | 0, o + 1, n => 48 :: unr 0 o n
  | k + 1, o + 1, n => if n < ways (k + 1) o then 48 :: unr (k + 1) o n else 49 :: unr k (o + 2) (n - ways (k + 1) o)
  termination_by k o _ => (k, o)

theorem unr_lt {k o n : Nat} (h : n < ways k o) : unr k (o + 1) n = 48 :: unr k o n := by
  cases k with
  | zero => rw [unr]
  | succ k => rw [unr, if_pos h]

theorem unr_ge {k o n : Nat} (h : ways (k + 1) o ≤ n) : unr (k + 1) (o + 1) n = 49 :: unr k (o + 2) (n - ways (k + 1) o) := by
  rw [unr, if_neg (by omega)]

theorem unr_word : ∀ (k o n : Nat), n < ways k o → Word (unr k o n) k o ∧ rk (unr k o n) k o = n
  | 0, 0, n, h => by rw [ways_00] at h; simp only [unr]; exact ⟨.done, by simp only [rk]; omega⟩
  | k + 1, 0, n, h => by rw [ways_k0] at h; omega
  | k, o + 1, n, h => by
    by_cases h1 : n < ways k o
    · rw [unr_lt h1]
      have := unr_word k o n h1
      exact ⟨.zero this.1, by simp [rk, this.2]⟩
    · match k, h, h1 with
      | 0, h, h1 => rw [ways_zero] at h h1; omega
      | k + 1, h, h1 =>
        rw [ways_ko] at h
        rw [unr_ge (by omega)]
        have := unr_word k (o + 2) (n - ways (k + 1) o) (by omega)
        refine ⟨.one this.1, ?_⟩
        simp only [rk]
        rw [if_neg (by decide)]
        simp [this.2]; omega
  termination_by k o _ => (k, o)

theorem unr_rk {l : List UInt8} {k o : Nat} (h : Word l k o) : unr k o (rk l k o) = l := by
  induction h with
  | done => simp [unr]
  | @zero l k o h ih =>
    have := h.rk_lt
    simp only [rk, if_pos]
    simp only [Nat.add_sub_cancel]
    rw [unr_lt this, ih]
  | @one l k o h ih =>
    simp only [rk]
    rw [if_neg (by decide)]
    simp only [Nat.add_sub_cancel]
    rw [unr_ge (by omega), Nat.add_sub_cancel_left, ih]

theorem seek_base : ∀ (f k n : Nat), base k + n = base (seek f k n).1 + (seek f k n).2 ∧ k ≤ (seek f k n).1 ∧ (seek f k n).1 ≤ k + f ∧ ((seek f k n).1 < k + f → (seek f k n).2 < ways (seek f k n).1 1)
  | 0, k, n => by simp [seek]
  | f + 1, k, n => by
    simp only [seek]
    split
    · rename_i h
      exact ⟨rfl, Nat.le_refl _, by omega, fun _ => h⟩
    · rename_i h
      have := seek_base f (k + 1) (n - ways k 1)
      refine ⟨?_, by omega, by omega, fun h' => this.2.2.2 (by omega)⟩
      have h1 := this.1
      simp only [base] at h1
      omega

/-- what Unrank returns for a number that is not negative -/
def unrankL (n : Nat) : Option (List UInt8) :=
  if (seek 31 0 n).1 ≤ 30 then some (unr (seek 31 0 n).1 1 (seek 31 0 n).2) else none

theorem seek_unique {a b m n : Nat} (h : base a + m = base b + n) (hm : m < ways a 1) (hn : n < ways b 1) : a = b ∧ m = n := by
  rcases Nat.lt_trichotomy a b with h1 | h1 | h1
  · have := base_mono (show a + 1 ≤ b by omega)
    simp only [base] at this
    omega
  · subst h1; exact ⟨rfl, by omega⟩
  · have := base_mono (show b + 1 ≤ a by omega)
    simp only [base] at this
    omega

theorem unrank_rank {l : List UInt8} {k : Nat} (h : Word l k 1) (hk : k ≤ 30) : unrankL (rankL l) = some l := by
  have hl := h.len
  have hk2 : l.length / 2 = k := by omega
  have hr := h.rk_lt
  simp only [unrankL, rankL, hk2]
  have hs := seek_base 31 0 (base k + rk l k 1)
  generalize hse : seek 31 0 (base k + rk l k 1) = q at *
  simp only [base, Nat.zero_add] at hs
  have h31 : q.1 < 31 := by
    rcases Nat.lt_or_ge q.1 31 with h1 | h1
    · exact h1
    · have := base_mono (show k + 1 ≤ q.1 by omega)
      simp only [base] at this
      omega
  have hu := seek_unique hs.1 hr (hs.2.2.2 h31)
  rw [if_pos (by omega), ← hu.1, ← hu.2, unr_rk h]

end Go.Proofs.Ythmnbciefpkpmaa
