/- The walks of parts, Head, Tail and Value of the package tree, and of value and pair of the package code. -/
import Derived.Test.YthmnbciefpkpmaaDec
import Derived.Test.YthmnbciefpkpmaaRank
namespace Go.Proofs.Ythmnbciefpkpmaa
open Go.RowKit

theorem enc_hd (t : T) : ∃ c r, enc t = c :: r := by cases t <;> exact ⟨_, _, rfl⟩

theorem strB_data (l : List UInt8) : (strB l).data.toList = l := rfl

theorem strB_extract (l : List UInt8) (a b : Nat) : (strB l).extract a b = strB ((l.drop a).take (b - a)) := by
  apply ba_eq
  rw [Lib.extract_data, strB_data]

theorem valid_enc (t : T) (h : t.size ≤ 2000000) : validB (strB (enc t)) = true := (validB_iff _).2 ⟨t, by simp, h⟩

theorem toList_strB (l : List UInt8) : (strB l).toList = l := by rw [ByteArray.toList_eq]

/-- the parts of a tree -/
def partsV (t : T) : Value := .tuple #[.string (strB (enc t.hd)), .string (strB (enc t.tl))]

set_option maxRecDepth 100000 in
theorem parts_c (t : T) (w : World) (h : t.size ≤ 2000000) :
    Calls Try.prog 158 #[.string (strB (enc t))] w fun e w' => e = .returned (partsV t) ∧ Below w.heap.size w w' := by
  cases t with
  | nil =>
    have h1 : ((strB (enc .nil)).toList == [48]) = true := by rw [toList_strB]; rfl
    go_enter Try.func158, Try.ntmps158
    go_wp2_with fail
    go_ret2
    exact ⟨rfl, Below.refl _ _⟩
  | node a b =>
    have hz : (strB (enc (.node a b))).size = 1 + a.size + b.size := by rw [strB_size, enc_len]; rfl
    simp only [T.size] at h
    have hsc : scan ((strB (enc (.node a b))).data.toList.drop 1) 1 = some a.size := by
      rw [strB_data]
      show scan (enc a ++ enc b) (0 + 1) = _
      rw [scan_enc, scan_zero]
      simp
    have h1 : ((strB (enc (.node a b))).toList == [48]) = false := by
      rw [toList_strB]
      obtain ⟨c, r, h⟩ := enc_hd a
      simp [enc, h]
    have e1 : (strB (enc (.node a b))).extract 1 (1 + a.size) = strB (enc a) := by
      rw [strB_extract]
      congr 1
      show ((enc a ++ enc b).drop 0).take _ = _
      have := enc_len a
      simp [← this]
    have e2 : (strB (enc (.node a b))).extract (1 + a.size) (strB (enc (.node a b))).size = strB (enc b) := by
      rw [strB_extract, hz]
      congr 1
      have e3 : (enc (.node a b)).drop (1 + a.size) = enc b := by
        have := enc_len a
        show (49 :: (enc a ++ enc b)).drop (1 + a.size) = _
        rw [Nat.add_comm, List.drop_succ_cons, ← this]
        simp
      rw [e3, List.take_of_length_le]
      have := enc_len b
      omega
    generalize strB (enc (.node a b)) = u at *
    have hc := fun w => end_c u 1 w (by omega) (by omega)
    rw [hsc] at hc
    have Hc := Lib.hid hc
    have He := Lib.hid (And.intro e1 e2)
    have hz1 : (1 : Int) + a.size ≤ u.size := by omega
    have hz2 : (1 : Int) + a.size ≤ 2000000 := by omega
    have hz3 : (0 : Int) ≤ 1 + a.size := by omega
    have hz4 : (1 : Int) ≤ 1 + a.size := by omega
    have hz5 : (1 + (a.size : Int)).toNat = 1 + a.size := by omega
    clear hc e1 e2 hsc hz
    go_enter Try.func158, Try.ntmps158
    go_wp2_with (go_at_call 135; refine (Hc.out _).mono ?_; simp only [endV]; rintro e w' ⟨rfl, hb⟩)
    go_quiet (fail)
    go_wp2_with fail
    go_ret2
    exact ⟨by simp only [partsV, T.hd, T.tl]; rw [← He.out.1, ← He.out.2]; rfl, below_drewN hb _⟩

/-- how long a string is that may be no tree -/
def osz : Option T → Nat
  | none => 0
  | some t => t.size

theorem osz_prA {o : Option T} {M : Nat} (h : osz o ≤ M) : osz (prA o) ≤ M := by
  match o, h with
  | none, h => exact Nat.zero_le _
  | some .nil, h => exact Nat.zero_le _
  | some (.node a b), h => simp only [osz, prA, T.size] at h ⊢; omega
theorem osz_prB {o : Option T} {M : Nat} (h : osz o ≤ M) : osz (prB o) ≤ M := by
  match o, h with
  | none, h => exact Nat.zero_le _
  | some .nil, h => exact Nat.zero_le _
  | some (.node a b), h => simp only [osz, prB, T.size] at h ⊢; omega

theorem sOf_size (o : Option T) : (sOf o).size = osz o := by
  cases o with
  | none => rfl
  | some t => simp only [sOf, osz]; rw [strB_size, enc_len]

theorem validB_empty : validB ⟨#[]⟩ = false := by
  simp [validB, scan]

theorem valid_o (o : Option T) (h : osz o ≤ 2000000) : validB (sOf o) = o.isSome := by
  cases o with
  | none => exact validB_empty
  | some t => exact valid_enc t h

/-- what Head and Tail return -/
def headV (o : Option T) : Value := match o with
  | some t => .tuple #[.string (strB (enc t.hd)), .int .i64 0]
  | none => .tuple #[.string ⟨#[]⟩, .int .i64 1]
def tailV (o : Option T) : Value := match o with
  | some t => .tuple #[.string (strB (enc t.tl)), .int .i64 0]
  | none => .tuple #[.string ⟨#[]⟩, .int .i64 1]

set_option maxRecDepth 100000 in
theorem head_c (o : Option T) (w : World) (h : osz o ≤ 2000000) :
    Calls Try.prog 159 #[.string (sOf o)] w fun e w' => e = .returned (headV o) ∧ Below w.heap.size w w' := by
  have hv := valid_c (sOf o) w (by rw [sOf_size]; omega)
  rw [valid_o o h] at hv
  cases o with
  | none =>
    have Hv := Lib.hid hv
    clear hv h
    go_enter Try.func159, Try.ntmps159
    go_wp2_with (go_at_call 94; refine Hv.out.mono ?_; rintro e w1 ⟨rfl, hb1⟩)
    go_ret2
    exact ⟨rfl, hb1⟩
  | some t =>
    have hp := fun w => parts_c t w h
    simp only [sOf, headV, partsV] at hv hp ⊢
    generalize strB (enc t) = u at *
    generalize strB (enc t.hd) = u1 at *
    generalize strB (enc t.tl) = u2 at *
    have Hv := Lib.hid hv
    have Hp := Lib.hid hp
    clear hv hp h
    go_enter Try.func159, Try.ntmps159
    go_wp2_with (first | (go_at_call 94; refine Hv.out.mono ?_; rintro e w1 ⟨rfl, hb1⟩) | (go_at_call 158; refine (Hp.out _).mono ?_; rintro e w2 ⟨rfl, hb2⟩))
    go_ret2
    exact ⟨rfl, hb1.trans (hb2.mono hb1.size)⟩

set_option maxRecDepth 100000 in
theorem tail_c (o : Option T) (w : World) (h : osz o ≤ 2000000) :
    Calls Try.prog 160 #[.string (sOf o)] w fun e w' => e = .returned (tailV o) ∧ Below w.heap.size w w' := by
  have hv := valid_c (sOf o) w (by rw [sOf_size]; omega)
  rw [valid_o o h] at hv
  cases o with
  | none =>
    have Hv := Lib.hid hv
    clear hv h
    go_enter Try.func160, Try.ntmps160
    go_wp2_with (go_at_call 94; refine Hv.out.mono ?_; rintro e w1 ⟨rfl, hb1⟩)
    go_ret2
    exact ⟨rfl, hb1⟩
  | some t =>
    have hp := fun w => parts_c t w h
    simp only [sOf, tailV, partsV] at hv hp ⊢
    generalize strB (enc t) = u at *
    generalize strB (enc t.hd) = u1 at *
    generalize strB (enc t.tl) = u2 at *
    have Hv := Lib.hid hv
    have Hp := Lib.hid hp
    clear hv hp h
    go_enter Try.func160, Try.ntmps160
    go_wp2_with (first | (go_at_call 94; refine Hv.out.mono ?_; rintro e w1 ⟨rfl, hb1⟩) | (go_at_call 158; refine (Hp.out _).mono ?_; rintro e w2 ⟨rfl, hb2⟩))
    go_ret2
    exact ⟨rfl, hb1.trans (hb2.mono hb1.size)⟩

/-- what Value returns -/
def valueV (o : Option T) : Value := match o with
  | some t => (match numOf t with
    | some n => .tuple #[.int .i64 n, .int .i64 0]
    | none => .tuple #[.int .i64 0, .int .i64 4])
  | none => .tuple #[.int .i64 0, .int .i64 1]

set_option maxRecDepth 100000 in
theorem treeValue_c (o : Option T) (w : World) (h : osz o ≤ 2000000) :
    Calls Try.prog 161 #[.string (sOf o)] w fun e w' => e = .returned (valueV o) ∧ Below w.heap.size w w' := by
  have hv := valid_c (sOf o) w (by rw [sOf_size]; omega)
  rw [valid_o o h] at hv
  cases o with
  | none =>
    have Hv := Lib.hid hv
    clear hv h
    go_enter Try.func161, Try.ntmps161
    go_wp2_with (go_at_call 94; refine Hv.out.mono ?_; rintro e w1 ⟨rfl, hb1⟩)
    go_ret2
    exact ⟨rfl, hb1⟩
  | some t =>
    simp only [osz] at h
    have hz : (strB (enc t)).size = t.size := by rw [strB_size, enc_len]
    have hr := fun w => repeat2_c (t.size / 2) w (by omega)
    have hrs : (⟨((List.replicate (t.size / 2) [(49 : UInt8), 48]).flatten).toArray⟩ : ByteArray) ++ ⟨#[48]⟩ = strB (enc (numT (t.size / 2))) := by
      rw [enc_numT, ← strB_app]
    have hrz : (⟨((List.replicate (t.size / 2) [(49 : UInt8), 48]).flatten).toArray⟩ : ByteArray).size ≤ 2000000 := by
      show (strB _).size ≤ _
      rw [strB_size]; simp; omega
    generalize (⟨((List.replicate (t.size / 2) [(49 : UInt8), 48]).flatten).toArray⟩ : ByteArray) = R at *
    cases hn : numOf t with
    | some n =>
      have ht := numOf_some hn
      have hsz : t.size / 2 = n := by rw [ht, numT_size]; omega
      have heq : ((strB (enc t)).toList == (R ++ ⟨#[48]⟩).toList) = true := by rw [hrs, hsz, ← ht]; simp
      simp only [sOf, valueV, hn] at hv ⊢
      generalize strB (enc t) = u at *
      have hq : (u.size : Int) / 2 = (n : Int) := by omega
      rw [hsz] at hr
      have Hv := Lib.hid hv
      have Hr := Lib.hid hr
      have hnn : n ≤ 2000000 := by omega
      clear hv hr hn ht hrs hz hsz h
      go_enter Try.func161, Try.ntmps161
      go_wp2_with (first | (go_at_call 94; refine Hv.out.mono ?_; rintro e w1 ⟨rfl, hb1⟩) | (go_at_call 136; refine (Hr.out _).mono ?_; rintro e w2 ⟨rfl, hb2⟩))
      go_ret2
      exact ⟨rfl, hb1.trans (hb2.mono hb1.size)⟩
    | none =>
      have heq : ((strB (enc t)).toList == (R ++ ⟨#[48]⟩).toList) = false := by
        rw [hrs, toList_strB, toList_strB, beq_eq_false_iff_ne]
        intro e
        rw [enc_inj e, numOf_numT] at hn
        cases hn
      simp only [sOf, valueV, hn] at hv ⊢
      generalize strB (enc t) = u at *
      generalize hN : t.size / 2 = n at *
      have hq : (u.size : Int) / 2 = (n : Int) := by omega
      have Hv := Lib.hid hv
      have Hr := Lib.hid hr
      have hnn : n ≤ 2000000 := by omega
      clear hv hr hn hrs hz hN h
      go_enter Try.func161, Try.ntmps161
      go_wp2_with (first | (go_at_call 94; refine Hv.out.mono ?_; rintro e w1 ⟨rfl, hb1⟩) | (go_at_call 136; refine (Hr.out _).mono ?_; rintro e w2 ⟨rfl, hb2⟩))
      go_ret2
      exact ⟨rfl, hb1.trans (hb2.mono hb1.size)⟩

theorem valueV_eq (o : Option T) : ∃ c : Int, valueV o = .tuple #[.int .i64 (numV o), .int .i64 c] ∧ (c == 0) = numB o := by
  cases o with
  | none => exact ⟨1, rfl, rfl⟩
  | some t =>
    simp only [valueV, numV, numB, numO]
    cases numOf t with
    | none => exact ⟨4, rfl, rfl⟩
    | some n => exact ⟨0, rfl, rfl⟩

set_option maxRecDepth 100000 in
theorem value_c (o : Option T) (w : World) (h : osz o ≤ 2000000) :
    Calls Try.prog 121 #[.string (sOf o)] w fun e w' => e = .returned (.tuple #[.int .i64 (numV o), .bool (numB o)]) ∧ Below w.heap.size w w' := by
  have hv := treeValue_c o w h
  obtain ⟨c, hc1, hc2⟩ := valueV_eq o
  rw [hc1] at hv
  rw [← hc2]
  generalize sOf o = s at *
  generalize numV o = n at *
  have Hv := Lib.hid hv
  clear hv hc1 hc2
  go_enter Try.func121, Try.ntmps121
  go_wp2_with (go_at_call 161; refine Hv.out.mono ?_; rintro e w1 ⟨rfl, hb1⟩)
  go_ret2
  exact ⟨rfl, hb1⟩

set_option maxRecDepth 100000 in
theorem cpair_c (o : Option T) (w : World) (h : osz o ≤ 2000000) :
    Calls Try.prog 120 #[.string (sOf o)] w fun e w' => e = .returned (.tuple #[.string (sOf (prA o)), .string (sOf (prB o)), .bool (prIs o)]) ∧ Below w.heap.size w w' := by
  by_cases h0 : o = some .nil
  · subst h0
    have h1 : ((sOf (some .nil)).toList == [48]) = true := by simp only [sOf]; rw [toList_strB]; rfl
    simp only [prA, prB, prIs]
    go_enter Try.func120, Try.ntmps120
    go_wp2_with fail
    go_ret3
    exact ⟨rfl, Below.refl _ _⟩
  · have h1 : ((sOf o).toList == [48]) = false := by
      match o, h0 with
      | none, _ =>
        show ((strB []).toList == [48]) = false
        rw [toList_strB]; rfl
      | some (.node a b), _ =>
        simp only [sOf]
        rw [toList_strB]
        obtain ⟨c, r, h⟩ := enc_hd a
        simp [enc, h]
    have hi : prIs o = true := by
      match o, h0 with
      | none, _ => rfl
      | some (.node a b), _ => rfl
    have hh : ∃ c, headV o = .tuple #[.string (sOf (prA o)), .int .i64 c] := by
      match o, h0 with
      | none, _ => exact ⟨_, rfl⟩
      | some (.node a b), _ => exact ⟨_, rfl⟩
    have ht : ∃ c, tailV o = .tuple #[.string (sOf (prB o)), .int .i64 c] := by
      match o, h0 with
      | none, _ => exact ⟨_, rfl⟩
      | some (.node a b), _ => exact ⟨_, rfl⟩
    obtain ⟨c1, hh⟩ := hh
    obtain ⟨c2, ht⟩ := ht
    have k1 := fun w => head_c o w h
    have k2 := fun w => tail_c o w h
    rw [hh] at k1
    rw [ht] at k2
    rw [hi]
    generalize sOf (prA o) = a at *
    generalize sOf (prB o) = b at *
    generalize sOf o = s at *
    have K1 := Lib.hid k1
    have K2 := Lib.hid k2
    clear k1 k2 hh ht hi h0
    go_enter Try.func120, Try.ntmps120
    go_wp2_with (first | (go_at_call 159; refine (K1.out _).mono ?_; rintro e w1 ⟨rfl, hb1⟩) | (go_at_call 160; refine (K2.out _).mono ?_; rintro e w2 ⟨rfl, hb2⟩))
    go_ret3
    exact ⟨rfl, hb1.trans (hb2.mono hb1.size)⟩

end Go.Proofs.Ythmnbciefpkpmaa
