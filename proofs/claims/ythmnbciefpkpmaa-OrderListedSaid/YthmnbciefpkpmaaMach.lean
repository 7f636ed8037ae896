/- The machine of the document in plain Lean: what a run comes to, step by step; no program in sight. -/
import Derived.Test.YthmnbciefpkpmaaBase2
namespace Go.Proofs.Ythmnbciefpkpmaa
open Go.RowKit

/-- an instruction -/
structure Ins where
  op : Int
  a : Int
  b : Int
  c : Int
  tree : ByteArray
  deriving Inhabited

def Ins.cells (x : Ins) : List Value := [.int .i64 x.op, .int .i64 x.a, .int .i64 x.b, .int .i64 x.c, .string x.tree]

/-- a number is a register -/
def regB (n : Int) : Bool := decide (0 ≤ n) && decide (n < 32)

def mxi (a b : Int) : Int := if a < b then b else a
theorem mxi_le {a b c : Int} (h1 : a ≤ c) (h2 : b ≤ c) : mxi a b ≤ c := by unfold mxi; split <;> assumption
theorem le_mxi1 (a b : Int) : a ≤ mxi a b := by unfold mxi; split <;> omega
theorem le_mxi2 (a b : Int) : b ≤ mxi a b := by unfold mxi; split <;> omega

/-- the greatest register, step by step -/
def regsTo : List Ins → Int → Int
  | [], n => n
  | x :: l, n => regsTo l (if x.op = 5 then mxi n x.a else mxi (mxi (mxi n x.a) x.b) x.c)

theorem le_regsTo : ∀ (l : List Ins) (n : Int), n ≤ regsTo l n
  | [], n => Int.le_refl _
  | x :: l, n => by
    refine Int.le_trans ?_ (le_regsTo l _)
    split
    · exact le_mxi1 _ _
    · exact Int.le_trans (le_mxi1 _ _) (Int.le_trans (le_mxi1 _ _) (le_mxi1 _ _))

theorem getD_mem (l : List Ins) (k : Nat) (h : k < l.length) : l.getD k default ∈ l := by simp [h]

theorem drop_ins (l : List Ins) (k : Nat) (h : k < l.length) : l.drop k = l.getD k default :: l.drop (k + 1) := by
  rw [List.drop_eq_getElem_cons h]; simp [h]

theorem size_of_toList {s : ByteArray} (h : s.toList = []) : s.size = 0 := by
  have h2 := congrArg List.length h
  rw [ByteArray.toList_eq] at h2
  simpa using h2

theorem toList_of_size {s : ByteArray} (h : s.size = 0) : s.toList = [] := by
  rw [ByteArray.toList_eq]
  exact List.eq_nil_of_length_eq_zero (by simpa using h)

/-- one instruction is right at place i of n -/
def insOk (chars i n : Int) (x : Ins) : Bool :=
  regB x.a && (x.op == 0 || x.tree.size == 0) && (x.op == 2 || x.c == 0) &&
  (if x.op = 0 then (if (x.tree.size : Int) > chars then none else treeOf x.tree.data.toList).isSome && x.b == 0
   else if x.op = 1 ∨ x.op = 3 ∨ x.op = 4 then regB x.b
   else if x.op = 2 then regB x.b && regB x.c
   else if x.op = 5 then decide (-i ≤ x.b) && decide (x.b ≤ n - i)
   else false)

def goodTo (chars n : Int) : Nat → Int → List Ins → Bool
  | _, _, [] => true
  | i, all, x :: r => decide (all + x.tree.size ≤ chars) && insOk chars i n x && goodTo chars n (i + 1) (all + x.tree.size) r

def goodP (most chars : Int) (l : List Ins) : Bool := decide ((l.length : Int) ≤ most) && goodTo chars l.length 0 0 l

/-- the tree of an instruction that sets -/
def setT (x : Ins) : T := if x.op = 0 then (treeOf x.tree.data.toList).getD .nil else .nil

def T.hd : T → T | .nil => .nil | .node a _ => a
def T.tl : T → T | .nil => .nil | .node _ b => b
def T.isNil : T → Bool | .nil => true | .node _ _ => false

/-- what a step writes into register A; none: too large -/
def stepV (x : Ins) (r : List T) : Option T :=
  if x.op = 0 then some (setT x)
  else if x.op = 1 then some (r.getD x.b.toNat .nil)
  else if x.op = 2 then (if (r.getD x.b.toNat .nil).size + (r.getD x.c.toNat .nil).size ≥ 2000000 then none else some (.node (r.getD x.b.toNat .nil) (r.getD x.c.toNat .nil)))
  else if x.op = 3 then some (r.getD x.b.toNat .nil).hd
  else if x.op = 4 then some (r.getD x.b.toNat .nil).tl
  else some (r.getD x.a.toNat .nil)

/-- the place behind a step -/
def stepA (x : Ins) (at_ : Nat) (y : T) : Nat := if x.op = 5 ∧ y.isNil = false then (at_ + x.b).toNat else at_ + 1

/-- the sizes of all registers -/
def allSize (r : List T) : Nat := sizes r

/-- a run: what is returned, the steps, how it ended (0: it returns, 1: going, 2: too large), the most characters of all registers -/
def runP (l : List Ins) : Nat → Nat → List T → Nat → Nat → T × Nat × Nat × Nat
  | 0, at_, r, most, k => if at_ = l.length then (r.getD 0 .nil, k, 0, most) else (.nil, k, 1, most)
  | f + 1, at_, r, most, k =>
    if at_ = l.length then (r.getD 0 .nil, k, 0, most)
    else match stepV (l.getD at_ default) r with
      | none => (.nil, k, 2, 2000000)
      | some y =>
        let r' := r.set (l.getD at_ default).a.toNat y
        runP l f (stepA (l.getD at_ default) at_ y) r' (max most (sizes r')) (k + 1)

def first (x : T) : List T := x :: List.replicate 31 .nil

/-- what 'follow' returns -/
def followP (l : List Ins) (x : T) (fuel : Nat) : T × Nat × Nat × Nat := runP l fuel 0 (first x) (x.size + 31) 0

theorem goodTo_ins (chars n : Int) : ∀ (l : List Ins) (i : Nat) (all : Int), goodTo chars n i all l = true → 0 ≤ all → ∀ k, k < l.length →
    insOk chars ((i + k : Nat) : Int) n (l.getD k default) = true ∧ ((l.getD k default).tree.size : Int) ≤ chars
  | [], _, _, _, _, k, hk => by simp at hk
  | x :: r, i, all, h, h0, k, hk => by
    simp only [goodTo, Bool.and_eq_true, decide_eq_true_eq] at h
    obtain ⟨⟨h1, h2⟩, h3⟩ := h
    cases k with
    | zero => exact ⟨by simpa using h2, by simp; omega⟩
    | succ k =>
      have := goodTo_ins chars n r (i + 1) _ h3 (by omega) k (by simpa using hk)
      simpa [Nat.add_assoc, Nat.add_comm 1 k] using this

theorem goodP_ins {most chars : Int} {l : List Ins} (h : goodP most chars l = true) (k : Nat) (hk : k < l.length) :
    insOk chars (k : Int) l.length (l.getD k default) = true ∧ ((l.getD k default).tree.size : Int) ≤ chars := by
  simp only [goodP, Bool.and_eq_true] at h
  have := goodTo_ins chars l.length l 0 0 h.2 (by omega) k hk
  simpa using this

theorem goodP_len {most chars : Int} {l : List Ins} (h : goodP most chars l = true) : (l.length : Int) ≤ most := by
  simp only [goodP, Bool.and_eq_true, decide_eq_true_eq] at h
  exact h.1

/-- what the walk wants of a right instruction -/
theorem insOk_cases {chars i n : Int} {x : Ins} (h : insOk chars i n x = true) :
    (∃ na : Nat, x.a = na ∧ na < 32) ∧
    ((x.op = 0 ∧ (if (x.tree.size : Int) > chars then none else treeOf x.tree.data.toList) = some (setT x)) ∨
     ((x.op = 1 ∨ x.op = 3 ∨ x.op = 4) ∧ ∃ nb : Nat, x.b = nb ∧ nb < 32) ∨
     (x.op = 2 ∧ (∃ nb : Nat, x.b = nb ∧ nb < 32) ∧ ∃ nc : Nat, x.c = nc ∧ nc < 32) ∨
     (x.op = 5 ∧ -i ≤ x.b ∧ x.b ≤ n - i)) := by
  have reg : ∀ m : Int, regB m = true → ∃ k : Nat, m = k ∧ k < 32 := fun m hm => by
    simp only [regB, Bool.and_eq_true, decide_eq_true_eq] at hm
    exact ⟨m.toNat, by omega, by omega⟩
  simp only [insOk, Bool.and_eq_true] at h
  obtain ⟨⟨⟨ha, _⟩, _⟩, h4⟩ := h
  refine ⟨reg _ ha, ?_⟩
  split at h4
  · rename_i h0
    simp only [Bool.and_eq_true] at h4
    obtain ⟨hs, _⟩ := h4
    refine .inl ⟨h0, ?_⟩
    cases ht : (if (x.tree.size : Int) > chars then none else treeOf x.tree.data.toList) with
    | none => rw [ht] at hs; simp at hs
    | some t =>
      split at ht
      · simp at ht
      · simp [setT, h0, ht]
  · split at h4
    · rename_i _ h1
      exact .inr (.inl ⟨h1, reg _ h4⟩)
    · split at h4
      · rename_i _ _ h2
        simp only [Bool.and_eq_true] at h4
        exact .inr (.inr (.inl ⟨h2, reg _ h4.1, reg _ h4.2⟩))
      · split at h4
        · rename_i _ _ _ h5
          simp only [Bool.and_eq_true, decide_eq_true_eq] at h4
          exact .inr (.inr (.inr ⟨h5, h4.1, h4.2⟩))
        · simp at h4

theorem sizes_set : ∀ (r : List T) (i : Nat) (y : T), i < r.length → sizes (r.set i y) + (r.getD i .nil).size = sizes r + y.size
  | [], _, _, h => by simp at h
  | t :: r, 0, y, _ => by simp [sizes]; omega
  | t :: r, i + 1, y, h => by
    have := sizes_set r i y (by simpa using h)
    simp [sizes] at this ⊢; omega

theorem size_le_sizes : ∀ (r : List T) (i : Nat), i < r.length → (r.getD i .nil).size ≤ sizes r
  | [], _, h => by simp at h
  | t :: r, 0, _ => by simp [sizes]
  | t :: r, i + 1, h => by have := size_le_sizes r i (by simpa using h); simp [sizes] at this ⊢; omega

theorem sizes_first (x : T) : sizes (first x) = x.size + 31 := by simp [first, sizes, List.replicate, T.size]

end Go.Proofs.Ythmnbciefpkpmaa
