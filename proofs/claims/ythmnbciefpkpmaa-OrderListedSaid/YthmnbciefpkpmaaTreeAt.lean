/- The tree with a rank, and the programs whose codes are among the first trees; in plain Lean. -/
import Derived.Test.YthmnbciefpkpmaaOrd2
import Derived.Test.YthmnbciefpkpmaaDec
namespace Go.Proofs.Ythmnbciefpkpmaa
open Go.RowKit

/-- the tree with a rank -/
def treeAt (i : Nat) : T := ((unrankL i).bind treeOf).getD .nil

theorem word_tree {l : List UInt8} {k : Nat} (h : Word l k 1) : ∃ t, l = enc t := (scan_valid l).1 h.scan

theorem word_valid {t : T} (h : t.size ≤ 2000000) : ∃ k, Word (enc t) k 1 ∧ t.size = 2 * k + 1 := by
  have hv : validB (strB (enc t)) = true := (validB_iff _).2 ⟨t, by simp, h⟩
  have := validB_word hv
  have e : (strB (enc t)).data.toList = enc t := by simp
  rw [e] at this
  exact ⟨_, this.1, by have h2 := this.1.len; rw [enc_len] at h2; omega⟩

theorem enc_word : ∀ t : T, ∃ k, Word (enc t) k 1 := fun t => by
  have h : scan (enc t) 1 = some (enc t).length := (scan_valid (enc t)).2 ⟨t, rfl⟩
  exact word_scan _ _ h

theorem treeAt_spec {i : Nat} (h : i < base 31) : ∃ k, k ≤ 30 ∧ Word (enc (treeAt i)) k 1 ∧ rankL (enc (treeAt i)) = i := by
  obtain ⟨l, hl⟩ := unrank_lt h
  obtain ⟨k, hk, hw, hr⟩ := unrank_some hl
  obtain ⟨t, rfl⟩ := word_tree hw
  have : treeAt i = t := by simp [treeAt, hl, treeOf_enc]
  rw [this]
  exact ⟨k, hk, hw, hr⟩

theorem treeAt_rank {i : Nat} {t : T} (h : i < base 31) (hr : rankL (enc t) = i) : treeAt i = t := by
  obtain ⟨k, _, hw, hr2⟩ := treeAt_spec h
  obtain ⟨k2, hw2⟩ := enc_word t
  exact enc_inj (rank_inj hw hw2 (by rw [hr2, hr]))

theorem treeAt_succ {i : Nat} (h : i + 1 < base 31) : nextL (enc (treeAt i)) = enc (treeAt (i + 1)) := by
  obtain ⟨k, hk, hw, hr⟩ := treeAt_spec (show i < base 31 by omega)
  obtain ⟨k', hw', hr'⟩ := nextL_word hw
  obtain ⟨k2, hk2, hw2, hr2⟩ := treeAt_spec h
  exact rank_inj hw' hw2 (by omega)

theorem base_31 : ∀ k, k ≤ 31 → base k ≤ base 31 := fun _ h => base_mono h

theorem base_one : base 1 = 1 := by simp [base, ways_zero]

theorem ways_pos : ∀ k, 1 ≤ ways k 1
  | 0 => by rw [ways_zero]; exact Nat.le_refl _
  | k + 1 => by
    rw [show (1 : Nat) = 0 + 1 from rfl, ways_ko]
    have := ways_pos k
    have h2 := ways_mono k 1
    show 1 ≤ ways (k + 1) 0 + ways k (1 + 1)
    omega

theorem base_lt (k : Nat) : base k < base (k + 1) := by
  have := ways_pos k
  simp only [base]; omega

theorem treeAt_zero : treeAt 0 = .nil := by
  have h : base 30 < base 31 := base_lt 30
  exact treeAt_rank (by omega) (by
    have : Word (enc .nil) 0 1 := .zero .done
    rw [rankL_word this]
    simp [base, rk, enc])

theorem treeAt_pairs {i most : Nat} (h : i < base 31) : (treeAt i).size / 2 ≤ most ↔ i < base (most + 1) := by
  obtain ⟨k, hk, hw, hr⟩ := treeAt_spec h
  have hl := hw.len
  rw [enc_len] at hl
  have hlt := hw.rk_lt
  rw [rankL_word hw] at hr
  have e : (treeAt i).size / 2 = k := by omega
  rw [e]
  constructor
  · intro h1
    have := base_mono (show k + 1 ≤ most + 1 by omega)
    simp only [base] at this ⊢
    omega
  · intro h1
    rcases Nat.lt_or_ge most k with h2 | h2
    · have := base_mono (show most + 1 ≤ k by omega)
      omega
    · exact h2

theorem treeAt_size {i : Nat} (h : i < base 31) : (treeAt i).size ≤ 61 := by
  obtain ⟨k, hk, hw, hr⟩ := treeAt_spec h
  have hl := hw.len
  rw [enc_len] at hl
  omega

/-- the programs whose codes are among the first trees -/
def progsTo : Nat → List (List Ins)
  | 0 => []
  | i + 1 => match decP (treeAt i) with
    | some l => progsTo i ++ [l]
    | none => progsTo i

theorem progsTo_len : ∀ i, (progsTo i).length ≤ i
  | 0 => Nat.le_refl _
  | i + 1 => by
    have := progsTo_len i
    simp only [progsTo]
    split
    · simp; omega
    · omega

/-- what Programs returns -/
def progs (most : Nat) : List (List Ins) := progsTo (base (most + 1))

end Go.Proofs.Ythmnbciefpkpmaa
