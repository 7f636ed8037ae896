/- The code of a program, in plain Lean; padded programs. -/
import Derived.Test.YthmnbciefpkpmaaTopPlay
import Derived.Test.YthmnbciefpkpmaaCopy
namespace Go.Proofs.Ythmnbciefpkpmaa

/-- what stands in the code behind the register A -/
def codeR (x : Ins) : T :=
  if x.op = 0 then setT x
  else if x.op = 2 then .node (numT x.b.toNat) (numT x.c.toNat)
  else if x.op = 5 then (if x.b < 0 then .node (numT 1) (numT (-x.b).toNat) else .node .nil (numT x.b.toNat))
  else numT x.b.toNat

/-- the code of an instruction -/
def codeI (x : Ins) : T := .node (numT x.op.toNat) (.node (numT x.a.toNat) (codeR x))

/-- the code of a program -/
def codeT : List Ins → T
  | [] => .nil
  | x :: l => .node (codeI x) (codeT l)

/-- how long the list is that a tree is -/
def T.spine : T → Nat
  | .nil => 0
  | .node _ b => b.spine + 1

theorem codeT_spine : ∀ l, (codeT l).spine = l.length
  | [] => rfl
  | x :: l => by simp [codeT, T.spine, codeT_spine l]

theorem setT_len {x : Ins} {chars i n : Int} (h : insOk chars i n x = true) : (setT x).size ≤ x.tree.size + 1 := by
  by_cases h0 : x.op = 0
  · rcases (insOk_cases h).2 with ⟨_, ht⟩ | ⟨h1, _⟩ | ⟨h1, _⟩ | ⟨h1, _⟩
    · split at ht
      · simp at ht
      · have := treeOf_some ht
        have h2 := congrArg List.length this
        rw [enc_len] at h2
        simp at h2
        omega
    all_goals omega
  · unfold setT; rw [if_neg h0]; simp [T.size]

theorem codeI_size {x : Ins} {chars i n : Int} (h : insOk chars i n x = true) (hi : 0 ≤ i) (hin : i ≤ n) (hn : n ≤ 4000) : (codeI x).size ≤ x.tree.size + 8200 := by
  have hs := setT_len h
  obtain ⟨⟨na, ha, hna⟩, hc⟩ := insOk_cases h
  have h1 : (numT x.a.toNat).size ≤ 63 := by rw [numT_size]; omega
  have h0 : (numT x.op.toNat).size ≤ 11 := by
    rw [numT_size]; rcases hc with ⟨h, _⟩ | ⟨h, _⟩ | ⟨h, _⟩ | ⟨h, _⟩ <;> omega
  have h2 : (codeR x).size ≤ x.tree.size + 8010 := by
    unfold codeR
    split
    · omega
    · split
      · rcases hc with ⟨h, _⟩ | ⟨h, nb, hb, hb2⟩ | ⟨h, ⟨nb, hb, hb2⟩, nc, hcc, hc2⟩ | ⟨h, _⟩
        · omega
        · omega
        · simp only [T.size, numT_size]; omega
        · omega
      · split
        · rcases hc with ⟨h, _⟩ | ⟨h, nb, hb, hb2⟩ | ⟨h, ⟨nb, hb, hb2⟩, nc, hcc, hc2⟩ | ⟨h, h3, h4⟩
          · omega
          · omega
          · omega
          · split <;> simp only [T.size, numT_size] <;> omega
        · rcases hc with ⟨h, _⟩ | ⟨h, nb, hb, hb2⟩ | ⟨h, ⟨nb, hb, hb2⟩, nc, hcc, hc2⟩ | ⟨h, h3, h4⟩
          · omega
          · rw [numT_size]; omega
          · omega
          · omega
  simp only [codeI, T.size]
  omega

theorem codeT_size (n : Int) (hn : n ≤ 4000) : ∀ (l : List Ins) (i : Nat) (all : Int), goodTo 2000000 n i all l = true → ((i : Int) + l.length ≤ n) → all + (codeT l).size ≤ 2000000 + 8201 * l.length + 1 ∨ (l = [])
  | [], _, _, _, _ => Or.inr rfl
  | x :: l, i, all, h, hl => by
    simp only [goodTo, Bool.and_eq_true, decide_eq_true_eq] at h
    obtain ⟨⟨h1, h2⟩, h3⟩ := h
    have hI := codeI_size h2 (by omega) (by simp at hl; omega) hn
    left
    rcases codeT_size n hn l (i + 1) (all + x.tree.size) h3 (by simp at hl ⊢; omega) with h4 | h4
    · simp only [codeT, T.size, List.length_cons]
      omega
    · subst h4
      simp only [codeT, T.size, List.length_cons, List.length_nil]
      omega

theorem codeT_size_good {most : Int} {l : List Ins} (hm : most ≤ 4000) (h : goodP most 2000000 l = true) : (codeT l).size ≤ 40000000 := by
  have hl := goodP_len h
  simp only [goodP, Bool.and_eq_true] at h
  rcases codeT_size l.length (by omega) l 0 0 h.2 (by omega) with h1 | h1
  · omega
  · subst h1; simp [codeT, T.size]

end Go.Proofs.Ythmnbciefpkpmaa
