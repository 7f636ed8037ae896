/- The walk of OrderAfter of narcissuslaw10. -/
import Derived.Test.YthmnbciefpkpmaaBack
namespace Go.Proofs.Ythmnbciefpkpmaa
open Go.RowKit

theorem next_any {t : T} (h : t.size ≤ 1000000) : ∃ u, nextV (strB (enc t)) = .tuple #[.string (strB (enc u)), .int .i64 0] ∧ u.size ≤ 1000002 ∧ t.size ≤ u.size ∧ rankL (enc u) = rankL (enc t) + 1 := by
  have hv := valid_enc t (by omega)
  have e1 : (strB (enc t)).data.toList = enc t := by simp
  have e2 : (strB (enc t)).size = (enc t).length := by rw [strB_size]
  obtain ⟨k, hw⟩ := enc_word t
  obtain ⟨k', hw', hr⟩ := nextL_word hw
  obtain ⟨u, hu⟩ := word_tree hw'
  have hl := hw.len
  have hl' := hw'.len
  rw [enc_len] at hl
  have hlt := hw.rk_lt
  have hlt' := hw'.rk_lt
  have hrr := hr
  rw [rankL_word hw', rankL_word hw] at hr
  have e3 : base (k + 1) = base k + ways k 1 := rfl
  have hk' : k' ≤ k + 1 := by
    rcases Nat.lt_or_ge (k + 1) k' with h2 | h2
    · have := base_mono (show k + 2 ≤ k' by omega)
      have h3 : base (k + 1) < base (k + 2) := base_lt (k + 1)
      omega
    · exact h2
  have hk2 : k ≤ k' := by
    rcases Nat.lt_or_ge k' k with h2 | h2
    · have := base_mono (show k' + 1 ≤ k by omega)
      have e4 : base (k' + 1) = base k' + ways k' 1 := rfl
      omega
    · exact h2
  have hul : u.size = 2 * k' + 1 := by rw [← enc_len, ← hu]; exact hl'
  refine ⟨u, ?_, by omega, by omega, by rw [← hu]; exact hrr⟩
  unfold nextV
  rw [if_pos hv, e1, e2]
  have hle : (nxt (enc t) (enc t).length 0 0).length ≤ 2000000 := by
    show (nextL (enc t)).length ≤ _
    omega
  rw [if_pos hle]
  show Value.tuple #[.string (strB (nextL (enc t))), .int .i64 0] = _
  rw [hu]

theorem rank_valid {t : T} (h : t.size ≤ 2000000) : rankV (strB (enc t)) = if t.size / 2 ≤ 30 then .tuple #[.int .i64 (rankL (enc t)), .int .i64 0] else .tuple #[.int .i64 0, .int .i64 3] := by
  have hv := valid_enc t h
  have e1 : (strB (enc t)).data.toList = enc t := by simp
  have e2 : (strB (enc t)).size = t.size := by rw [strB_size, enc_len]
  unfold rankV
  rw [if_pos hv, e1, e2]

theorem odd_size (t : T) : ∃ k, t.size = 2 * k + 1 := by
  obtain ⟨k, hw⟩ := enc_word t
  have := hw.len
  rw [enc_len] at this
  exact ⟨k, this⟩

set_option maxRecDepth 100000 in
set_option maxHeartbeats 4000000 in
theorem after_no (s t : ByteArray) (w : World) (h : 1000000 < s.size ∨ 1000000 < t.size ∨ validB s = false ∨ validB t = false) :
    Calls Try.prog 7 #[.string s, .string t] w fun e w' => e = .returned (.bool true) ∧ Below w.heap.size w w' := by
  by_cases h1 : (1000000 : Int) < s.size
  · clear h
    go_enter Try.func7, Try.ntmps7
    go_wp2_with fail
    refine (awake10_c _).mono ?_
    rintro e x6 ⟨rfl, hx6⟩
    go_wp2_with fail
    go_ret
    exact ⟨rfl, hx6⟩
  · have h1' : (s.size : Int) ≤ 1000000 := by omega
    clear h1
    by_cases h2 : (1000000 : Int) < t.size
    · clear h
      go_enter Try.func7, Try.ntmps7
      go_wp2_with fail
      refine (awake10_c _).mono ?_
      rintro e x6 ⟨rfl, hx6⟩
      go_wp2_with fail
      go_ret
      exact ⟨rfl, hx6⟩
    · have h2' : (t.size : Int) ≤ 1000000 := by omega
      have hv1 := fun w => valid1_c s w (by omega)
      have hv2 := fun w => valid1_c t w (by omega)
      clear h2
      cases hs3 : validB s with
      | false =>
        rw [hs3] at hv1
        have Hv1 := Lib.hid hv1
        clear hv1 hv2 h hs3
        go_enter Try.func7, Try.ntmps7
        go_wp2_with fail
        refine (Hv1.out _).mono ?_
        rintro e x5 ⟨rfl, rfl⟩
        go_wp2_with fail
        refine (awake10_c _).mono ?_
        rintro e x6 ⟨rfl, hx6⟩
        go_wp2_with fail
        go_ret
        exact ⟨rfl, hx6⟩
      | true =>
        have ht3 : validB t = false := by
          rcases h with h | h | h | h
          · omega
          · omega
          · rw [hs3] at h; cases h
          · exact h
        rw [hs3] at hv1
        rw [ht3] at hv2
        have Hv1 := Lib.hid hv1
        have Hv2 := Lib.hid hv2
        clear hv1 hv2 h hs3 ht3
        go_enter Try.func7, Try.ntmps7
        go_wp2_with fail
        refine (Hv1.out _).mono ?_
        rintro e x4 ⟨rfl, rfl⟩
        go_wp2_with fail
        refine (Hv2.out _).mono ?_
        rintro e x5 ⟨rfl, rfl⟩
        go_wp2_with fail
        refine (awake10_c _).mono ?_
        rintro e x6 ⟨rfl, hx6⟩
        go_wp2_with fail
        go_ret
        exact ⟨rfl, hx6⟩

set_option maxRecDepth 100000 in
set_option maxHeartbeats 4000000 in
theorem after_yes (a b : T) (w : World) (ha : a.size ≤ 1000000) (hb : b.size ≤ 1000000) :
    Calls Try.prog 7 #[.string (strB (enc a)), .string (strB (enc b))] w fun e w' => e = .returned (.bool true) ∧ Below w.heap.size w w' := by
  obtain ⟨u, hnx, husz, hau, hru⟩ := next_any ha
  have z1 : (strB (enc a)).size = a.size := by rw [strB_size, enc_len]
  have z2 : (strB (enc b)).size = b.size := by rw [strB_size, enc_len]
  have z3 : (strB (enc u)).size = u.size := by rw [strB_size, enc_len]
  have hv1 := fun w => valid1_c (strB (enc a)) w (by omega)
  have hv2 := fun w => valid1_c (strB (enc b)) w (by omega)
  have hv3 := fun w => valid1_c (strB (enc u)) w (by omega)
  rw [valid_enc a (by omega)] at hv1
  rw [valid_enc b (by omega)] at hv2
  rw [valid_enc u (by omega)] at hv3
  have hn := fun w => next_c (strB (enc a)) w (by omega)
  rw [hnx] at hn
  have hb1 := fun w => before10_c (strB (enc a)) (strB (enc u)) w
  have hb2 := fun w => before10_c (strB (enc a)) (strB (enc b)) w
  have hb3 := fun w => before10_c (strB (enc b)) (strB (enc u)) w
  simp only [← before_rank] at hb1 hb2 hb3
  have hr1 := fun w => rank_c (strB (enc a)) w (by omega)
  have hr2 := fun w => rank_c (strB (enc u)) w (by omega)
  rw [rank_valid (by omega)] at hr1 hr2
  obtain ⟨k, hk⟩ := odd_size a
  obtain ⟨k', hk'⟩ := odd_size u
  have hlim : u.size / 2 ≤ 30 → rankL (enc u) ≤ 4611686018427387904 := fun h => (rank_tree10 u (by omega)).2.2
  rw [decide_eq_true (show rankL (enc a) < rankL (enc u) by omega)] at hb1
  have hd : decide (rankL (enc a) < rankL (enc b)) = true → decide (rankL (enc b) < rankL (enc u)) = false := by
    simp only [decide_eq_true_eq, decide_eq_false_iff_not]; omega
  generalize decide (rankL (enc a) < rankL (enc b)) = q1 at *
  generalize decide (rankL (enc b) < rankL (enc u)) = q2 at *
  have s1 : ((strB (enc a)).size : Int) ≤ 1000000 := by omega
  have s2 : ((strB (enc b)).size : Int) ≤ 1000000 := by omega
  generalize rankL (enc a) = A at *
  generalize rankL (enc u) = C at *
  generalize strB (enc a) = sa at *
  generalize strB (enc b) = sb at *
  generalize strB (enc u) = su at *
  have Hv1 := Lib.hid hv1
  have Hv2 := Lib.hid hv2
  have Hv3 := Lib.hid hv3
  have Hn := Lib.hid hn
  have Hb1 := Lib.hid hb1
  have Hb2 := Lib.hid hb2
  have Hb3 := Lib.hid hb3
  clear hv1 hv2 hv3 hn hb1 hb2 hb3 hnx z1 z2 z3
  by_cases h1 : a.size / 2 ≤ 30
  · rw [if_pos h1] at hr1
    by_cases h2 : u.size / 2 ≤ 30
    · rw [if_pos h2] at hr2
      have hlim2 := hlim h2
      have heq : ((C : Int) == (A : Int) + 1) = true := by simp; omega
      have hA : (A : Int) ≤ 4611686018427387904 := by omega
      have Hr1 := Lib.hid hr1
      have Hr2 := Lib.hid hr2
      clear hr1 hr2 hlim hlim2 h1 h2 hru hk hk' husz hau ha hb
      go_enter Try.func7, Try.ntmps7
      go_wp2_with fail
      refine (Hv1.out _).mono ?_
      rintro e x1 ⟨rfl, rfl⟩
      go_wp2_with fail
      refine (Hv2.out _).mono ?_
      rintro e x2 ⟨rfl, rfl⟩
      go_wp2_with fail
      refine (Hn.out _).mono ?_
      rintro e x3 ⟨rfl, hbel⟩
      go_wp2_with fail
      refine (Hv3.out _).mono ?_
      rintro e x4 ⟨rfl, rfl⟩
      go_wp2_with fail
      refine (Hb1.out _).mono ?_
      rintro e x5 ⟨rfl, rfl⟩
      go_wp2_with fail
      refine (Hb2.out _).mono ?_
      rintro e x7 ⟨rfl, rfl⟩
      cases q1 with
      | false =>
        go_wp2_with fail
        refine (Hr1.out _).mono ?_
        rintro e y1 ⟨rfl, hy1⟩
        go_wp2_with fail
        refine (Hr2.out _).mono ?_
        rintro e y2 ⟨rfl, hy2⟩
        have hbel2 := hbel.trans ((hy1.mono hbel.size).trans (hy2.mono (Nat.le_trans hbel.size hy1.size)))
        clear hbel hy1 hy2 Hr1 Hr2
        go_wp2_with fail
        refine (awake10_c _).mono ?_
        rintro e x6 ⟨rfl, hx6⟩
        go_wp2_with fail
        go_ret
        exact ⟨rfl, hbel2.trans (hx6.mono hbel2.size)⟩
      | true =>
        obtain rfl := hd rfl
        go_wp2_with fail
        refine (Hb3.out _).mono ?_
        rintro e x8 ⟨rfl, rfl⟩
        go_wp2_with fail
        refine (Hr1.out _).mono ?_
        rintro e y1 ⟨rfl, hy1⟩
        go_wp2_with fail
        refine (Hr2.out _).mono ?_
        rintro e y2 ⟨rfl, hy2⟩
        have hbel2 := hbel.trans ((hy1.mono hbel.size).trans (hy2.mono (Nat.le_trans hbel.size hy1.size)))
        clear hbel hy1 hy2 Hr1 Hr2
        go_wp2_with fail
        refine (awake10_c _).mono ?_
        rintro e x6 ⟨rfl, hx6⟩
        go_wp2_with fail
        go_ret
        exact ⟨rfl, hbel2.trans (hx6.mono hbel2.size)⟩
    · rw [if_neg h2] at hr2
      have Hr1 := Lib.hid hr1
      have Hr2 := Lib.hid hr2
      clear hr1 hr2 hlim h1 h2 hru hk hk' husz hau ha hb
      go_enter Try.func7, Try.ntmps7
      go_wp2_with fail
      refine (Hv1.out _).mono ?_
      rintro e x1 ⟨rfl, rfl⟩
      go_wp2_with fail
      refine (Hv2.out _).mono ?_
      rintro e x2 ⟨rfl, rfl⟩
      go_wp2_with fail
      refine (Hn.out _).mono ?_
      rintro e x3 ⟨rfl, hbel⟩
      go_wp2_with fail
      refine (Hv3.out _).mono ?_
      rintro e x4 ⟨rfl, rfl⟩
      go_wp2_with fail
      refine (Hb1.out _).mono ?_
      rintro e x5 ⟨rfl, rfl⟩
      go_wp2_with fail
      refine (Hb2.out _).mono ?_
      rintro e x7 ⟨rfl, rfl⟩
      cases q1 with
      | false =>
        go_wp2_with fail
        refine (Hr1.out _).mono ?_
        rintro e y1 ⟨rfl, hy1⟩
        go_wp2_with fail
        refine (Hr2.out _).mono ?_
        rintro e y2 ⟨rfl, hy2⟩
        have hbel2 := hbel.trans ((hy1.mono hbel.size).trans (hy2.mono (Nat.le_trans hbel.size hy1.size)))
        clear hbel hy1 hy2 Hr1 Hr2
        go_wp2_with fail
        refine (awake10_c _).mono ?_
        rintro e x6 ⟨rfl, hx6⟩
        go_wp2_with fail
        go_ret
        exact ⟨rfl, hbel2.trans (hx6.mono hbel2.size)⟩
      | true =>
        obtain rfl := hd rfl
        go_wp2_with fail
        refine (Hb3.out _).mono ?_
        rintro e x8 ⟨rfl, rfl⟩
        go_wp2_with fail
        refine (Hr1.out _).mono ?_
        rintro e y1 ⟨rfl, hy1⟩
        go_wp2_with fail
        refine (Hr2.out _).mono ?_
        rintro e y2 ⟨rfl, hy2⟩
        have hbel2 := hbel.trans ((hy1.mono hbel.size).trans (hy2.mono (Nat.le_trans hbel.size hy1.size)))
        clear hbel hy1 hy2 Hr1 Hr2
        go_wp2_with fail
        refine (awake10_c _).mono ?_
        rintro e x6 ⟨rfl, hx6⟩
        go_wp2_with fail
        go_ret
        exact ⟨rfl, hbel2.trans (hx6.mono hbel2.size)⟩
  · have h2 : ¬ u.size / 2 ≤ 30 := by omega
    rw [if_neg h1] at hr1
    rw [if_neg h2] at hr2
    have Hr1 := Lib.hid hr1
    have Hr2 := Lib.hid hr2
    clear hr1 hr2 hlim h1 h2 hru hk hk' husz hau ha hb
    go_enter Try.func7, Try.ntmps7
    go_wp2_with fail
    refine (Hv1.out _).mono ?_
    rintro e x1 ⟨rfl, rfl⟩
    go_wp2_with fail
    refine (Hv2.out _).mono ?_
    rintro e x2 ⟨rfl, rfl⟩
    go_wp2_with fail
    refine (Hn.out _).mono ?_
    rintro e x3 ⟨rfl, hbel⟩
    go_wp2_with fail
    refine (Hv3.out _).mono ?_
    rintro e x4 ⟨rfl, rfl⟩
    go_wp2_with fail
    refine (Hb1.out _).mono ?_
    rintro e x5 ⟨rfl, rfl⟩
    go_wp2_with fail
    refine (Hb2.out _).mono ?_
    rintro e x7 ⟨rfl, rfl⟩
    cases q1 with
    | false =>
      go_wp2_with fail
      refine (Hr1.out _).mono ?_
      rintro e y1 ⟨rfl, hy1⟩
      go_wp2_with fail
      refine (Hr2.out _).mono ?_
      rintro e y2 ⟨rfl, hy2⟩
      have hbel2 := hbel.trans ((hy1.mono hbel.size).trans (hy2.mono (Nat.le_trans hbel.size hy1.size)))
      clear hbel hy1 hy2 Hr1 Hr2
      go_wp2_with fail
      refine (awake10_c _).mono ?_
      rintro e x6 ⟨rfl, hx6⟩
      go_wp2_with fail
      go_ret
      exact ⟨rfl, hbel2.trans (hx6.mono hbel2.size)⟩
    | true =>
      obtain rfl := hd rfl
      go_wp2_with fail
      refine (Hb3.out _).mono ?_
      rintro e x8 ⟨rfl, rfl⟩
      go_wp2_with fail
      refine (Hr1.out _).mono ?_
      rintro e y1 ⟨rfl, hy1⟩
      go_wp2_with fail
      refine (Hr2.out _).mono ?_
      rintro e y2 ⟨rfl, hy2⟩
      have hbel2 := hbel.trans ((hy1.mono hbel.size).trans (hy2.mono (Nat.le_trans hbel.size hy1.size)))
      clear hbel hy1 hy2 Hr1 Hr2
      go_wp2_with fail
      refine (awake10_c _).mono ?_
      rintro e x6 ⟨rfl, hx6⟩
      go_wp2_with fail
      go_ret
      exact ⟨rfl, hbel2.trans (hx6.mono hbel2.size)⟩

theorem after_c (s t : ByteArray) (w : World) :
    Calls Try.prog 7 #[.string s, .string t] w fun e w' => e = .returned (.bool true) ∧ Below w.heap.size w w' := by
  by_cases h : 1000000 < s.size ∨ 1000000 < t.size ∨ validB s = false ∨ validB t = false
  · exact after_no s t w h
  · have h1 : validB s = true := by
      cases hv : validB s with
      | true => rfl
      | false => exact absurd (Or.inr (Or.inr (Or.inl hv))) h
    have h2 : validB t = true := by
      cases hv : validB t with
      | true => rfl
      | false => exact absurd (Or.inr (Or.inr (Or.inr hv))) h
    obtain ⟨a, ha, haz⟩ := (validB_iff s).1 h1
    obtain ⟨b, hb, hbz⟩ := (validB_iff t).1 h2
    have es : s = strB (enc a) := by rw [← ha, strB_toList]
    have et : t = strB (enc b) := by rw [← hb, strB_toList]
    have zs : s.size = a.size := by rw [es, strB_size, enc_len]
    have zt : t.size = b.size := by rw [et, strB_size, enc_len]
    rw [es, et]
    exact after_yes a b w (by omega) (by omega)

end Go.Proofs.Ythmnbciefpkpmaa
