/- Where a tree ends in a string, in plain Lean. -/
import Derived.Test.YthmnbciefpkpmaaBase2
namespace Go.Proofs.Ythmnbciefpkpmaa
open Go.RowKit

/-- how many characters the next trees take -/
def scan : List UInt8 → Nat → Option Nat
  | _, 0 => some 0
  | [], _ + 1 => none
  | c :: l, o + 1 => if c = 48 then (scan l o).map (· + 1) else if c = 49 then (scan l (o + 2)).map (· + 1) else none

theorem scan_zero (l : List UInt8) : scan l 0 = some 0 := by cases l <;> rfl

theorem scan_enc : ∀ (t : T) (l : List UInt8) (o : Nat), scan (enc t ++ l) (o + 1) = (scan l o).map (· + t.size)
  | .nil, l, o => by simp [enc, scan, T.size]
  | .node a b, l, o => by
    have h1 := scan_enc a (enc b ++ l) (o + 1)
    have h2 := scan_enc b l o
    simp only [enc, List.cons_append, scan, List.append_assoc]
    rw [if_neg (by decide), if_pos trivial, h1, h2]
    simp only [Option.map_map]
    congr 1
    funext n
    simp [T.size]
    omega

theorem scan_len : ∀ (l : List UInt8) (o n : Nat), scan l o = some n → n ≤ l.length
  | l, 0, n, h => by rw [scan_zero] at h; simp only [Option.some.injEq] at h; omega
  | [], o + 1, n, h => by simp [scan] at h
  | c :: l, o + 1, n, h => by
    simp only [scan] at h
    split at h
    · simp only [Option.map_eq_some_iff] at h
      obtain ⟨m, hm, rfl⟩ := h
      have := scan_len l o m hm
      simp; omega
    · split at h
      · simp only [Option.map_eq_some_iff] at h
        obtain ⟨m, hm, rfl⟩ := h
        have := scan_len l (o + 2) m hm
        simp; omega
      · simp at h

theorem scan_trees : ∀ (l : List UInt8) (o n : Nat), scan l o = some n → ∃ ts : List T, ts.length = o ∧ l.take n = encS ts
  | l, 0, n, h => by rw [scan_zero] at h; simp only [Option.some.injEq] at h; subst h; exact ⟨[], rfl, by simp [encS]⟩
  | [], o + 1, n, h => by simp [scan] at h
  | c :: l, o + 1, n, h => by
    simp only [scan] at h
    split at h
    · rename_i hc
      simp only [Option.map_eq_some_iff] at h
      obtain ⟨m, hm, rfl⟩ := h
      obtain ⟨ts, hl, ht⟩ := scan_trees l o m hm
      exact ⟨.nil :: ts, by simp [hl], by simp [encS, enc, ht, hc]⟩
    · split at h
      · rename_i hc
        simp only [Option.map_eq_some_iff] at h
        obtain ⟨m, hm, rfl⟩ := h
        obtain ⟨ts, hl, ht⟩ := scan_trees l (o + 2) m hm
        match ts, hl with
        | a :: b :: ts, hl =>
          exact ⟨.node a b :: ts, by simp at hl ⊢; omega, by simp [ht, encS, enc, hc]⟩
      · simp at h

/-- a string is exactly one tree -/
theorem scan_valid (l : List UInt8) : scan l 1 = some l.length ↔ ∃ t, l = enc t := by
  constructor
  · intro h
    obtain ⟨ts, hl, ht⟩ := scan_trees l 1 _ h
    match ts, hl with
    | [t], _ => exact ⟨t, by simpa [encS] using ht⟩
  · rintro ⟨t, rfl⟩
    have := scan_enc t [] 0
    simp [scan_zero] at this
    rw [this, enc_len]

theorem treeOf_scan (l : List UInt8) : (treeOf l).isSome = true ↔ scan l 1 = some l.length := by
  rw [scan_valid]
  constructor
  · intro h
    obtain ⟨t, ht⟩ := Option.isSome_iff_exists.1 h
    exact ⟨t, treeOf_some ht⟩
  · rintro ⟨t, rfl⟩
    rw [treeOf_enc]; rfl

/-- a string is a valid tree -/
def validB (s : ByteArray) : Bool := decide (s.size ≤ 2000000) && decide (scan s.data.toList 1 = some s.size)

theorem validB_iff (s : ByteArray) : validB s = true ↔ ∃ t, s.data.toList = enc t ∧ t.size ≤ 2000000 := by
  have hs : s.size = s.data.toList.length := by simp
  simp only [validB, Bool.and_eq_true, decide_eq_true_eq]
  rw [hs, scan_valid]
  constructor
  · rintro ⟨h1, t, ht⟩
    exact ⟨t, ht, by rw [← enc_len, ← ht]; exact h1⟩
  · rintro ⟨t, ht, h1⟩
    exact ⟨by rw [ht, enc_len]; exact h1, t, ht⟩

theorem validB_treeOf (s : ByteArray) : validB s = (if (s.size : Int) > 2000000 then none else treeOf s.data.toList).isSome := by
  have hs : s.size = s.data.toList.length := by simp
  rw [Bool.eq_iff_iff]
  split
  · rename_i h
    simp only [validB, Bool.and_eq_true, decide_eq_true_eq]
    constructor
    · rintro ⟨h1, _⟩; omega
    · intro h1; simp at h1
  · rename_i h
    rw [treeOf_scan]
    simp only [validB, Bool.and_eq_true, decide_eq_true_eq, ← hs]
    constructor
    · exact fun h => h.2
    · exact fun h => ⟨by omega, h⟩

end Go.Proofs.Ythmnbciefpkpmaa
