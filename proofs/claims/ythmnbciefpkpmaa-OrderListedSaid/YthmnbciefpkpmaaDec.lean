/- Programs out of their codes, in plain Lean. -/
import Derived.Test.YthmnbciefpkpmaaCodeNum
namespace Go.Proofs.Ythmnbciefpkpmaa

/-- the number that a tree is -/
def numOf : T → Option Nat
  | .nil => some 0
  | .node .nil b => (numOf b).map (· + 1)
  | .node (.node _ _) _ => none

theorem numOf_numT : ∀ n, numOf (numT n) = some n
  | 0 => rfl
  | n + 1 => by simp [numT, numOf, numOf_numT n]

theorem numOf_some : ∀ {t : T} {n : Nat}, numOf t = some n → t = numT n
  | .nil, n, h => by simp only [numOf, Option.some.injEq] at h; subst h; rfl
  | .node .nil b, n, h => by
    simp only [numOf, Option.map_eq_some_iff] at h
    obtain ⟨m, hm, rfl⟩ := h
    rw [numOf_some hm]; rfl
  | .node (.node _ _) _, n, h => by simp [numOf] at h

/-- a string that may be no tree: then it is empty -/
def sOf : Option T → ByteArray
  | none => ⟨#[]⟩
  | some t => strB (enc t)

def prA : Option T → Option T
  | some (.node a _) => some a
  | _ => none
def prB : Option T → Option T
  | some (.node _ b) => some b
  | _ => none
def prIs : Option T → Bool
  | some .nil => false
  | _ => true
def numO : Option T → Option Nat
  | some t => numOf t
  | none => none
def numV (o : Option T) : Nat := (numO o).getD 0
def numB (o : Option T) : Bool := (numO o).isSome

/-- what the field of an instruction with an operation is read as -/
def getSet (o : Option T) : Ins × Bool := (⟨0, numV (prA o), 0, 0, sOf (prB o)⟩, prIs o && numB (prA o))
def getCons (o : Option T) : Ins × Bool :=
  (⟨2, numV (prA o), numV (prA (prB o)), numV (prB (prB o)), ⟨#[]⟩⟩, prIs o && (prIs (prB o) && (numB (prA o) && (numB (prA (prB o)) && numB (prB (prB o))))))
def sg1 (o : Option T) : Bool := decide (sOf (prA (prB o)) = strB [49, 48, 48])
def sg0 (o : Option T) : Bool := decide (sOf (prA (prB o)) = strB [48])
def getJump (o : Option T) : Ins × Bool :=
  (⟨5, numV (prA o), if sg1 o = true then - (numV (prB (prB o)) : Int) else (numV (prB (prB o)) : Int), 0, ⟨#[]⟩⟩,
    prIs o && (prIs (prB o) && (numB (prA o) && (numB (prB (prB o)) && (sg0 o || (sg1 o && decide (0 < numV (prB (prB o)))))))))
def getRegs (n : Int) (o : Option T) : Ins × Bool := (⟨n, numV (prA o), numV (prB o), 0, ⟨#[]⟩⟩, prIs o && (numB (prA o) && numB (prB o)))
def getI (n : Nat) (o : Option T) : Ins × Bool := if n = 0 then getSet o else if n = 2 then getCons o else if n = 5 then getJump o else getRegs n o

/-- the instruction with a code -/
def decI (t : T) : Option Ins :=
  if prIs (some t) && (numB (prA (some t)) && (decide (numV (prA (some t)) < 6) && (getI (numV (prA (some t))) (prB (some t))).2)) then some (getI (numV (prA (some t))) (prB (some t))).1 else none

/-- the elements of a tree -/
def T.items : T → List T
  | .nil => []
  | .node a b => a :: b.items

theorem items_len : ∀ t : T, t.items.length = t.spine
  | .nil => rfl
  | .node _ b => by simp [T.items, T.spine, items_len b]

def decL : List T → Option (List Ins)
  | [] => some []
  | t :: r => match decI t with
    | none => none
    | some x => match decL r with
      | none => none
      | some l => some (x :: l)

def okP (l : List Ins) : Option (List Ins) := if goodP 4000 2000000 l = true then some l else none

/-- the program with a code -/
def decP (t : T) : Option (List Ins) := if 4000 < t.items.length then none else match decL t.items with
  | none => none
  | some l => okP l

theorem strB_inj {a b : List UInt8} (h : strB a = strB b) : a = b := by
  have := congrArg (fun x => x.data.toList) h
  simpa using this

theorem strB_toList (s : ByteArray) : strB s.data.toList = s := by
  cases s; rfl

theorem numO_some {o : Option T} {n : Nat} (h : numO o = some n) : o = some (numT n) := by
  cases o with
  | none => simp [numO] at h
  | some t => exact congrArg some (numOf_some h)

theorem numB_iff {o : Option T} (h : numB o = true) : ∃ n, o = some (numT n) ∧ numV o = n := by
  obtain ⟨n, hn⟩ := Option.isSome_iff_exists.1 h
  exact ⟨n, numO_some hn, by simp [numV, hn]⟩

theorem numV_numT (n : Nat) : numV (some (numT n)) = n := by simp [numV, numO, numOf_numT]
theorem numB_numT (n : Nat) : numB (some (numT n)) = true := by simp [numB, numO, numOf_numT]

theorem prB_some {o : Option T} {b : T} (h : prB o = some b) : ∃ a, o = some (.node a b) := by
  match o, h with
  | some (.node a b), h => simp only [prB, Option.some.injEq] at h; subst h; exact ⟨a, rfl⟩

theorem sg_eq {a : T} {l : List UInt8} (h : sOf (some a) = strB l) : enc a = l := strB_inj h

theorem enc_one : enc (numT 1) = [49, 48, 48] := rfl

theorem setT_enc (n : Int) (b : T) : setT ⟨0, n, 0, 0, strB (enc b)⟩ = b := by
  unfold setT
  rw [if_pos rfl]
  simp [treeOf_enc]

theorem decI_code {t : T} {x : Ins} (h : decI t = some x) : codeI x = t := by
  unfold decI at h
  split at h
  · rename_i hc
    simp only [Bool.and_eq_true, decide_eq_true_eq] at hc
    obtain ⟨h0, h1, h2, h3⟩ := hc
    simp only [Option.some.injEq] at h
    subst h
    match t, h0, h1, h2, h3 with
    | .nil, h0, _, _, _ => simp [prIs] at h0
    | .node op args, _, h1, h2, h3 =>
      simp only [prA, prB] at h1 h2 h3 ⊢
      obtain ⟨n, hn, hv⟩ := numB_iff h1
      simp only [Option.some.injEq] at hn
      subst hn
      rw [numV_numT] at h2 h3 ⊢
      clear h1 hv
      have hop : n = 0 ∨ n = 2 ∨ n = 5 ∨ (n = 1 ∨ n = 3 ∨ n = 4) := by omega
      rcases hop with rfl | rfl | rfl | hop
      · simp only [getI, if_pos, getSet, Bool.and_eq_true] at h3 ⊢
        obtain ⟨h4, h5⟩ := h3
        match args, h4, h5 with
        | .nil, h4, _ => simp [prIs] at h4
        | .node a b, _, h5 =>
          simp only [prA, prB] at h5 ⊢
          obtain ⟨i, hi, hv⟩ := numB_iff h5
          simp only [Option.some.injEq] at hi
          subst hi
          rw [numV_numT]
          simp only [codeI, codeR, sOf, setT_enc]
          rfl
      · rw [show getI 2 (some args) = getCons (some args) from rfl] at h3 ⊢
        simp only [getCons, Bool.and_eq_true] at h3 ⊢
        obtain ⟨h4, h5, h6, h7, h8⟩ := h3
        match args, h4, h5, h6, h7, h8 with
        | .nil, h4, _, _, _, _ => simp [prIs] at h4
        | .node a .nil, _, h5, _, _, _ => simp [prIs, prB] at h5
        | .node a (.node b c), _, _, h6, h7, h8 =>
          simp only [prA, prB] at h6 h7 h8 ⊢
          obtain ⟨i, hi, _⟩ := numB_iff h6
          obtain ⟨j, hj, _⟩ := numB_iff h7
          obtain ⟨k, hk, _⟩ := numB_iff h8
          simp only [Option.some.injEq] at hi hj hk
          subst hi hj hk
          simp only [numV_numT]
          rfl
      · rw [show getI 5 (some args) = getJump (some args) from rfl] at h3 ⊢
        simp only [getJump, Bool.and_eq_true, Bool.or_eq_true] at h3 ⊢
        obtain ⟨h4, h5, h6, h7, h8⟩ := h3
        match args, h4, h5, h6, h7, h8 with
        | .nil, h4, _, _, _, _ => simp [prIs] at h4
        | .node a .nil, _, h5, _, _, _ => simp [prIs, prB] at h5
        | .node a (.node b c), _, _, h6, h7, h8 =>
          simp only [prA, prB] at h6 h7 h8 ⊢
          obtain ⟨i, hi, _⟩ := numB_iff h6
          obtain ⟨k, hk, _⟩ := numB_iff h7
          simp only [Option.some.injEq] at hi hk
          subst hi hk
          simp only [numV_numT, decide_eq_true_eq] at h8 ⊢
          rcases h8 with h8 | ⟨h8, h9⟩
          · have hb : enc b = enc .nil := by
              have := of_decide_eq_true h8
              exact sg_eq this
            have hb := enc_inj hb
            subst hb
            have hs : sg1 (some (.node (numT i) (.node .nil (numT k)))) = false := by
              refine decide_eq_false fun e => ?_
              have := sg_eq (a := .nil) e
              simp [enc] at this
            rw [hs]
            simp only [codeI, codeR]
            simp
            omega
          · have hb : enc b = enc (numT 1) := by
              have := of_decide_eq_true h8
              exact sg_eq this
            have hb := enc_inj hb
            subst hb
            rw [if_pos h8]
            simp only [codeI, codeR]
            simp
            omega
      · have hne : n ≠ 0 ∧ n ≠ 2 ∧ n ≠ 5 := by omega
        simp only [getI, if_neg hne.1, if_neg hne.2.1, if_neg hne.2.2, getRegs, Bool.and_eq_true] at h3 ⊢
        obtain ⟨h4, h5, h6⟩ := h3
        match args, h4, h5, h6 with
        | .nil, h4, _, _ => simp [prIs] at h4
        | .node a b, _, h5, h6 =>
          simp only [prA, prB] at h5 h6 ⊢
          obtain ⟨i, hi, _⟩ := numB_iff h5
          obtain ⟨k, hk, _⟩ := numB_iff h6
          simp only [Option.some.injEq] at hi hk
          subst hi hk
          simp only [numV_numT]
          simp only [codeI, codeR]
          rw [if_neg (by omega), if_neg (by omega), if_neg (by omega)]
          simp
  · simp at h

theorem decL_code : ∀ {ts : List T} {l : List Ins}, decL ts = some l → l.length = ts.length ∧ ∀ t : T, t.items = ts → codeT l = t
  | [], l, h => by
    simp only [decL, Option.some.injEq] at h
    subst h
    refine ⟨rfl, fun t ht => ?_⟩
    cases t with
    | nil => rfl
    | node a b => simp [T.items] at ht
  | u :: r, l, h => by
    simp only [decL] at h
    split at h
    · simp at h
    · rename_i x hx
      split at h
      · simp at h
      · rename_i l2 hl2
        simp only [Option.some.injEq] at h
        subst h
        obtain ⟨h1, h2⟩ := decL_code hl2
        refine ⟨by simp [h1], fun t ht => ?_⟩
        cases t with
        | nil => simp [T.items] at ht
        | node a b =>
          simp only [T.items, List.cons.injEq] at ht
          obtain ⟨rfl, hb⟩ := ht
          simp only [codeT]
          rw [h2 b hb, decI_code hx]

theorem decP_code {t : T} {l : List Ins} (h : decP t = some l) : codeT l = t ∧ goodP 4000 2000000 l = true := by
  unfold decP at h
  split at h
  · simp at h
  · split at h
    · simp at h
    · rename_i l2 hl2
      unfold okP at h
      split at h
      · rename_i hg
        simp only [Option.some.injEq] at h
        subst h
        exact ⟨(decL_code hl2).2 t rfl, hg⟩
      · simp at h

theorem size_zero {s : ByteArray} (h : s.size = 0) : s = ⟨#[]⟩ := by
  cases s with
  | mk d =>
    congr 1
    exact Array.eq_empty_of_size_eq_zero h

theorem decI_codeI {chars i n : Int} {x : Ins} (h : insOk chars i n x = true) : decI (codeI x) = some x := by
  have h' := h
  simp only [insOk, Bool.and_eq_true] at h'
  obtain ⟨⟨⟨_, htree⟩, hcz⟩, hrest⟩ := h'
  obtain ⟨⟨na, ha, hna⟩, hc⟩ := insOk_cases h
  obtain ⟨op, a, b, c, tree⟩ := x
  simp only at *
  subst ha
  rcases hc with ⟨rfl, ht⟩ | ⟨hop, nb, hb, hb2⟩ | ⟨rfl, ⟨nb, hb, hb2⟩, nc, hcc, hc2⟩ | ⟨rfl, h3, h4⟩
  · have hc0 : c = 0 := by simpa using hcz
    have hb0 : b = 0 := by simp at hrest; exact hrest.2
    subst hc0 hb0
    have htr : tree = strB (enc (setT ⟨0, na, 0, 0, tree⟩)) := by
      split at ht
      · simp at ht
      · have := treeOf_some ht
        rw [← this, strB_toList]
    have hcode : codeI ⟨0, na, 0, 0, tree⟩ = .node (numT 0) (.node (numT na) (setT ⟨0, na, 0, 0, tree⟩)) := by simp [codeI, codeR]
    rw [hcode]
    generalize setT ⟨0, na, 0, 0, tree⟩ = u at *
    subst htr
    simp [decI, prIs, prA, prB, numB_numT, numV_numT, getI, getSet, sOf]
  · have hop2 : op ≠ 0 ∧ op ≠ 2 ∧ op ≠ 5 := by omega
    have hc0 : c = 0 := by simpa [hop2.2.1] using hcz
    have ht0 : tree = ⟨#[]⟩ := size_zero (by simpa [hop2.1] using htree)
    obtain ⟨no, rfl⟩ : ∃ no : Nat, op = no := ⟨op.toNat, by omega⟩
    subst hc0 ht0 hb
    have hno : no ≠ 0 ∧ no ≠ 2 ∧ no ≠ 5 ∧ no < 6 := by omega
    have hcode : codeI ⟨no, na, nb, 0, ⟨#[]⟩⟩ = .node (numT no) (.node (numT na) (numT nb)) := by
      simp only [codeI, codeR]
      rw [if_neg hop2.1, if_neg hop2.2.1, if_neg hop2.2.2]
      simp
    rw [hcode]
    simp [decI, prIs, prA, prB, numB_numT, numV_numT, getI, getRegs, hno]
  · have ht0 : tree = ⟨#[]⟩ := size_zero (by simpa using htree)
    subst hb hcc ht0
    have hcode : codeI ⟨2, na, nb, nc, ⟨#[]⟩⟩ = .node (numT 2) (.node (numT na) (.node (numT nb) (numT nc))) := by simp [codeI, codeR]
    rw [hcode]
    simp [decI, prIs, prA, prB, numB_numT, numV_numT, getI, getCons]
  · have ht0 : tree = ⟨#[]⟩ := size_zero (by simpa using htree)
    have hc0 : c = 0 := by simpa using hcz
    subst ht0 hc0
    by_cases hneg : b < 0
    · obtain ⟨m, rfl⟩ : ∃ m : Nat, b = -((m : Int) + 1) := ⟨(-b - 1).toNat, by omega⟩
      have hcode : codeI ⟨5, na, -((m : Int) + 1), 0, ⟨#[]⟩⟩ = .node (numT 5) (.node (numT na) (.node (numT 1) (numT (m + 1)))) := by
        simp only [codeI, codeR]
        rw [if_neg (by decide), if_neg (by decide), if_pos trivial, if_pos hneg]
        have : (- -((m : Int) + 1)).toNat = m + 1 := by omega
        rw [this]
        simp
      rw [hcode]
      have hs : sg1 (some (.node (numT na) (.node (numT 1) (numT (m + 1))))) = true := decide_eq_true rfl
      simp [decI, prIs, prA, prB, numB_numT, numV_numT, getI, getJump, hs]
    · obtain ⟨m, rfl⟩ : ∃ m : Nat, b = (m : Int) := ⟨b.toNat, by omega⟩
      have hcode : codeI ⟨5, na, m, 0, ⟨#[]⟩⟩ = .node (numT 5) (.node (numT na) (.node .nil (numT m))) := by
        simp only [codeI, codeR]
        rw [if_neg (by decide), if_neg (by decide), if_pos trivial, if_neg hneg]
        simp
      rw [hcode]
      have hs : sg1 (some (.node (numT na) (.node .nil (numT m)))) = false := by
        refine decide_eq_false fun e => ?_
        have := sg_eq (a := .nil) e
        simp [enc] at this
      have hs0 : sg0 (some (.node (numT na) (.node .nil (numT m)))) = true := decide_eq_true rfl
      simp [decI, prIs, prA, prB, numB_numT, numV_numT, getI, getJump, hs, hs0]

theorem codeT_items : ∀ l : List Ins, (codeT l).items = l.map codeI
  | [] => rfl
  | x :: l => by simp [codeT, T.items, codeT_items l]

theorem decL_codes (chars n : Int) : ∀ (l : List Ins) (i : Nat) (all : Int), goodTo chars n i all l = true → decL (l.map codeI) = some l
  | [], _, _, _ => rfl
  | x :: l, i, all, h => by
    simp only [goodTo, Bool.and_eq_true] at h
    obtain ⟨⟨_, h2⟩, h3⟩ := h
    simp only [List.map_cons, decL]
    rw [decI_codeI h2, decL_codes chars n l (i + 1) _ h3]

theorem decP_codeT {l : List Ins} (h : goodP 4000 2000000 l = true) : decP (codeT l) = some l := by
  have hl := goodP_len h
  unfold decP
  rw [codeT_items, List.length_map, if_neg (by omega)]
  have h2 := h
  simp only [goodP, Bool.and_eq_true] at h2
  rw [decL_codes _ _ l 0 0 h2.2]
  simp [okP, h]

theorem decP_iff {t : T} {l : List Ins} : decP t = some l ↔ codeT l = t ∧ goodP 4000 2000000 l = true :=
  ⟨decP_code, fun ⟨h1, h2⟩ => by rw [← h1]; exact decP_codeT h2⟩

end Go.Proofs.Ythmnbciefpkpmaa
