/- Bounds on the trees of a machine. -/
import Derived.Test.YthmnbciefpkpmaaMach
namespace Go.Proofs.Ythmnbciefpkpmaa
open Go.RowKit

theorem sizes_le (M : Nat) : ∀ r : List T, (∀ i, i < r.length → (r.getD i .nil).size ≤ M) → sizes r ≤ r.length * M
  | [], _ => by simp [sizes]
  | t :: r, h => by
    have h0 := h 0 (by simp)
    have := sizes_le M r (fun i hi => by have := h (i + 1) (by simpa using hi); simpa using this)
    simp [sizes, Nat.add_mul] at h0 ⊢; omega

theorem setT_size (x : Ins) (M : Nat) (h : x.tree.size ≤ M) (hM : 1 ≤ M) : (setT x).size ≤ M := by
  unfold setT
  split
  · cases ht : treeOf x.tree.data.toList with
    | none => simpa [T.size] using hM
    | some t =>
      have := congrArg List.length (treeOf_some ht)
      rw [enc_len] at this
      simp at this ⊢
      omega
  · simpa [T.size] using hM

def runNext (l : List Ins) (f : Nat) (z : Ins) (at_ : Nat) (r : List T) (most k : Nat) : T × Nat × Nat × Nat :=
  match stepV z r with
  | none => (.nil, k, 2, 2000000)
  | some y => runP l f (stepA z at_ y) (r.set z.a.toNat y) (max most (sizes (r.set z.a.toNat y))) (k + 1)

theorem runP_step (l : List Ins) (f at_ : Nat) (r : List T) (most k : Nat) (h : at_ ≠ l.length) : runP l (f + 1) at_ r most k = runNext l f (l.getD at_ default) at_ r most k := by
  rw [runP, if_neg h]; rfl

theorem first_bound {x : T} {M : Nat} (h : x.size ≤ M) (hM : 1 ≤ M) : ∀ i, i < (first x).length → ((first x).getD i .nil).size ≤ M := by
  intro i hi
  cases i with
  | zero => simpa [first] using h
  | succ i =>
    have h2 : (first x).getD (i + 1) .nil = .nil := by
      simp only [first, List.getD_cons_succ]
      simp only [List.getD_eq_getElem?_getD, List.getElem?_replicate]
      split <;> rfl
    rw [h2]
    simpa [T.size] using hM

theorem hd_size (t : T) : t.hd.size ≤ t.size := by cases t <;> simp [T.hd, T.size]; omega
theorem tl_size (t : T) : t.tl.size ≤ t.size := by cases t <;> simp [T.tl, T.size]

theorem getD_size {r : List T} {M : Nat} (h : ∀ i, i < r.length → (r.getD i .nil).size ≤ M) (hM : 1 ≤ M) (i : Nat) : (r.getD i .nil).size ≤ M := by
  by_cases hi : i < r.length
  · exact h i hi
  · have h2 : r[i]? = none := List.getElem?_eq_none (by omega)
    simpa [h2, T.size] using hM

theorem stepV_size {x : Ins} {r : List T} {M : Nat} {y : T} (h : ∀ i, i < r.length → (r.getD i .nil).size ≤ M) (hM : 2000001 ≤ M) (hx : x.tree.size ≤ M) (hy : stepV x r = some y) : y.size ≤ M := by
  have g := getD_size h (by omega)
  unfold stepV at hy
  split at hy
  · simp only [Option.some.injEq] at hy; subst hy; exact setT_size x M hx (by omega)
  · split at hy
    · simp only [Option.some.injEq] at hy; subst hy; exact g _
    · split at hy
      · split at hy
        · simp at hy
        · simp only [Option.some.injEq] at hy; subst hy; simp only [T.size]; omega
      · split at hy
        · simp only [Option.some.injEq] at hy; subst hy; exact Nat.le_trans (hd_size _) (g _)
        · split at hy
          · simp only [Option.some.injEq] at hy; subst hy; exact Nat.le_trans (tl_size _) (g _)
          · simp only [Option.some.injEq] at hy; subst hy; exact g _

theorem set_bound {r : List T} {M : Nat} (h : ∀ i, i < r.length → (r.getD i .nil).size ≤ M) {y : T} (hy : y.size ≤ M) (k : Nat) : ∀ i, i < (r.set k y).length → ((r.set k y).getD i .nil).size ≤ M := by
  intro i hi
  rw [List.length_set] at hi
  have := h i hi
  simp only [List.getD_eq_getElem?_getD, List.getElem?_set] at this ⊢
  split
  · split
    · simpa using hy
    · simp_all
  · exact this

theorem mx_nat (a b : Nat) : (if (a : Int) < (b : Int) then (b : Int) else (a : Int)) = ((max a b : Nat) : Int) := by
  split <;> omega

end Go.Proofs.Ythmnbciefpkpmaa
