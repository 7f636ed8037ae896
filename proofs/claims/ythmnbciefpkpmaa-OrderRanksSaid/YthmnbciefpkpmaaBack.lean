/- The walk of OrderBack of narcissuslaw10. -/
import Derived.Test.YthmnbciefpkpmaaNumbers
namespace Go.Proofs.Ythmnbciefpkpmaa
open Go.RowKit

theorem rank_cases (s : ByteArray) : (∃ t, s = strB (enc t) ∧ t.size ≤ 61 ∧ rankV s = .tuple #[.int .i64 (rankL (enc t)), .int .i64 0] ∧ unrankV (rankL (enc t)) = .tuple #[.string s, .int .i64 0] ∧ rankL (enc t) ≤ 4611686018427387904) ∨
    ∃ c : Int, (c == 0) = false ∧ (c != 0) = true ∧ rankV s = .tuple #[.int .i64 0, .int .i64 c] := by
  by_cases hv : validB s = true
  · by_cases hk : s.size / 2 ≤ 30
    · left
      obtain ⟨t, ht, hsz⟩ := (validB_iff s).1 hv
      have hs : s = strB (enc t) := by rw [← ht, strB_toList]
      have hz : s.size = t.size := by rw [hs, strB_size, enc_len]
      have h61 : t.size ≤ 61 := by omega
      obtain ⟨h1, h2, h3⟩ := rank_tree10 t h61
      exact ⟨t, hs, h61, by rw [hs]; exact h1, by rw [h2, hs], h3⟩
    · right
      refine ⟨3, rfl, rfl, ?_⟩
      unfold rankV
      rw [if_pos hv, if_neg hk]
  · right
    refine ⟨1, rfl, rfl, ?_⟩
    unfold rankV
    rw [if_neg hv]

theorem unrank_cases (n : Int) : (∃ t, unrankV n = .tuple #[.string (strB (enc t)), .int .i64 0] ∧ t.size ≤ 61 ∧ rankV (strB (enc t)) = .tuple #[.int .i64 n, .int .i64 0] ∧ ones (enc t) ≤ 30) ∨
    unrankV n = .tuple #[.string ⟨#[]⟩, .int .i64 2] := by
  unfold unrankV
  by_cases h : n < 0
  · right; rw [if_pos h]
  · rw [if_neg h]
    cases hu : unrankL n.toNat with
    | none => right; rfl
    | some l =>
      left
      obtain ⟨k, hk, hw, hr⟩ := unrank_some hu
      obtain ⟨t, rfl⟩ := word_tree hw
      have hl := hw.len
      rw [enc_len] at hl
      have h61 : t.size ≤ 61 := by omega
      refine ⟨t, rfl, h61, ?_, ?_⟩
      · have := (rank_tree10 t h61).1
        rw [hr] at this
        have e : ((n.toNat : Nat) : Int) = n := by omega
        rw [e] at this
        exact this
      · have := hw.ones
        omega

theorem before_rank {a b : T} : decide (rankL (enc a) < rankL (enc b)) = before (enc a) (enc b) := by
  obtain ⟨k, hw⟩ := enc_word a
  obtain ⟨k', hw'⟩ := enc_word b
  rw [Bool.eq_iff_iff, decide_eq_true_eq]
  exact rank_less hw hw'

theorem rank_eq {a b : T} : decide (rankL (enc a) = rankL (enc b)) = ((strB (enc a)).toList == (strB (enc b)).toList) := by
  obtain ⟨k, hw⟩ := enc_word a
  obtain ⟨k', hw'⟩ := enc_word b
  rw [Bool.eq_iff_iff, decide_eq_true_eq, beq_iff_eq, toList_strB, toList_strB]
  exact ⟨fun h => rank_inj hw hw' h, fun h => by rw [h]⟩

set_option maxRecDepth 100000 in
set_option maxHeartbeats 4000000 in
theorem back_c (s t : ByteArray) (n : Int) (w : World) (hn : n ≤ 9223372036854775807) :
    Calls Try.prog 6 #[.string s, .string t, .int .i64 n] w fun e w' => e = .returned (.bool true) ∧ Below w.heap.size w w' := by
  have hu := fun w => unrank_c n w hn
  have hun := unrank_cases n
  by_cases hbig : 1000 < s.size ∨ 1000 < t.size
  · have hb : (decide ((1000 : Int) < s.size) || decide ((1000 : Int) < t.size)) = true := by simp; omega
    have Hb := Lib.hid hb
    clear hb
    rcases hun with ⟨u, hu1, hu2, hu3, hu4⟩ | hu1
    · rw [hu1] at hu
      have hr := fun w => rank_c (strB (enc u)) w (by rw [strB_size, enc_len]; omega)
      rw [hu3] at hr
      have hv := fun w => valid1_c (strB (enc u)) w (by rw [strB_size, enc_len]; omega)
      rw [valid_enc u (by omega)] at hv
      have hp := fun w => r01_Pairs_c (strB (enc u)) w (by rw [strB_size, enc_len]; omega)
      rw [strB_data] at hp
      have h30 : (ones (enc u) : Int) ≤ 30 := by omega
      generalize ones (enc u) = on at *
      generalize strB (enc u) = U at *
      have Hu := Lib.hid hu
      have Hr := Lib.hid hr
      have Hv := Lib.hid hv
      have Hp := Lib.hid hp
      clear hu hr hv hp hu1 hu3 hbig
      go_enter Try.func6, Try.ntmps6
      go_wp2_with fail
      refine (Hu.out _).mono ?_
      rintro e w1 ⟨rfl, hb1⟩
      go_wp2_with fail
      refine (Hr.out _).mono ?_
      rintro e w2 ⟨rfl, hb2⟩
      go_wp2_with fail
      refine (Hv.out _).mono ?_
      rintro e w3 ⟨rfl, rfl⟩
      go_wp2_with fail
      refine (Hp.out _).mono ?_
      rintro e w4 ⟨rfl, rfl⟩
      have hbel := hb1.trans (hb2.mono hb1.size)
      have hb := Hb.out
      clear hb1 hb2 Hb
      go_wp2_with fail
      all_goals (
        refine (awake10_c _).mono ?_
        rintro e w6 ⟨rfl, hb6⟩
        go_wp2_with fail
        go_ret
        exact ⟨rfl, hbel.trans (hb6.mono hbel.size)⟩)
    · rw [hu1] at hu
      have Hu := Lib.hid hu
      clear hu hu1 hbig
      go_enter Try.func6, Try.ntmps6
      go_wp2_with fail
      refine (Hu.out _).mono ?_
      rintro e w1 ⟨rfl, hbel⟩
      have hb := Hb.out
      clear Hb
      go_wp2_with fail
      all_goals (
        refine (awake10_c _).mono ?_
        rintro e w6 ⟨rfl, hb6⟩
        go_wp2_with fail
        go_ret
        exact ⟨rfl, hbel.trans (hb6.mono hbel.size)⟩)
  · have hs1 : (s.size : Int) ≤ 1000 := by omega
    have ht1 : (t.size : Int) ≤ 1000 := by omega
    have hrs := fun w => rank_c s w (by omega)
    have hrt := fun w => rank_c t w (by omega)
    clear hbig
    rcases rank_cases s with ⟨a, hsa, ha61, hra, hua, hal⟩ | ⟨c, hc1, hc2, hra⟩
    · rw [hra] at hrs
      have hus := fun w => unrank_c (rankL (enc a)) w (by omega)
      rw [hua] at hus
      have hss : (s.toList == s.toList) = true := by simp
      rcases rank_cases t with ⟨b, htb, hb61, hrb, _, hbl⟩ | ⟨c, hc1, hc2, hrb⟩
      · rw [hrb] at hrt
        have hbf := fun w => before10_c s t w
        have e1 : before s.data.toList t.data.toList = decide (rankL (enc a) < rankL (enc b)) := by rw [hsa, htb, strB_data, strB_data, before_rank]
        have e2 : (s.toList == t.toList) = decide (rankL (enc a) = rankL (enc b)) := by rw [hsa, htb, rank_eq]
        rw [e1] at hbf
        generalize rankL (enc a) = A at *
        generalize rankL (enc b) = B at *
        have e3 : ((A : Int) == (B : Int)) = decide (A = B) := by rw [Bool.eq_iff_iff, beq_iff_eq, decide_eq_true_eq]; omega
        have Hrs := Lib.hid hrs
        have Hrt := Lib.hid hrt
        have Hus := Lib.hid hus
        have Hbf := Lib.hid hbf
        clear hrs hrt hus hbf e1 hsa htb hra hua hrb ha61 hb61
        rcases hun with ⟨u, hu1, hu2, hu3, hu4⟩ | hu1
        · rw [hu1] at hu
          have hr := fun w => rank_c (strB (enc u)) w (by rw [strB_size, enc_len]; omega)
          rw [hu3] at hr
          have hv := fun w => valid1_c (strB (enc u)) w (by rw [strB_size, enc_len]; omega)
          rw [valid_enc u (by omega)] at hv
          have hp := fun w => r01_Pairs_c (strB (enc u)) w (by rw [strB_size, enc_len]; omega)
          rw [strB_data] at hp
          have h30 : (ones (enc u) : Int) ≤ 30 := by omega
          generalize ones (enc u) = on at *
          generalize strB (enc u) = U at *
          have Hu := Lib.hid hu
          have Hr := Lib.hid hr
          have Hv := Lib.hid hv
          have Hp := Lib.hid hp
          clear hu hr hv hp hu1 hu3
          go_enter Try.func6, Try.ntmps6
          go_wp2_with fail
          refine (Hu.out _).mono ?_
          rintro e w1 ⟨rfl, hb1⟩
          go_wp2_with fail
          refine (Hr.out _).mono ?_
          rintro e w2 ⟨rfl, hb2⟩
          go_wp2_with fail
          refine (Hv.out _).mono ?_
          rintro e w3 ⟨rfl, rfl⟩
          go_wp2_with fail
          refine (Hp.out _).mono ?_
          rintro e w4 ⟨rfl, rfl⟩
          have hbel := hb1.trans (hb2.mono hb1.size)
          clear hb1 hb2 h30
          go_wp2_with fail
          refine (Hrs.out _).mono ?_
          rintro e x1 ⟨rfl, hx1⟩
          go_wp2_with fail
          refine (Hrt.out _).mono ?_
          rintro e x2 ⟨rfl, hx2⟩
          have hbel2 := hbel.trans ((hx1.mono hbel.size).trans (hx2.mono (Nat.le_trans hbel.size hx1.size)))
          clear hbel hx1 hx2 Hrs Hrt
          go_wp2_with fail
          refine (Hus.out _).mono ?_
          rintro e x3 ⟨rfl, hx3⟩
          have hbel2 := hbel2.trans (hx3.mono hbel2.size)
          clear hx3 Hus
          go_wp2_with fail
          refine (Hbf.out _).mono ?_
          rintro e x4 ⟨rfl, rfl⟩
          clear Hbf
          go_wp2_with fail
          refine (awake10_c _).mono ?_
          rintro e x6 ⟨rfl, hx6⟩
          go_wp2_with fail
          go_ret
          exact ⟨rfl, hbel2.trans (hx6.mono hbel2.size)⟩
        · rw [hu1] at hu
          have Hu := Lib.hid hu
          clear hu hu1
          go_enter Try.func6, Try.ntmps6
          go_wp2_with fail
          refine (Hu.out _).mono ?_
          rintro e w1 ⟨rfl, hbel⟩
          go_wp2_with fail
          refine (Hrs.out _).mono ?_
          rintro e x1 ⟨rfl, hx1⟩
          go_wp2_with fail
          refine (Hrt.out _).mono ?_
          rintro e x2 ⟨rfl, hx2⟩
          have hbel2 := hbel.trans ((hx1.mono hbel.size).trans (hx2.mono (Nat.le_trans hbel.size hx1.size)))
          clear hbel hx1 hx2 Hrs Hrt
          go_wp2_with fail
          refine (Hus.out _).mono ?_
          rintro e x3 ⟨rfl, hx3⟩
          have hbel2 := hbel2.trans (hx3.mono hbel2.size)
          clear hx3 Hus
          go_wp2_with fail
          refine (Hbf.out _).mono ?_
          rintro e x4 ⟨rfl, rfl⟩
          clear Hbf
          go_wp2_with fail
          refine (awake10_c _).mono ?_
          rintro e x6 ⟨rfl, hx6⟩
          go_wp2_with fail
          go_ret
          exact ⟨rfl, hbel2.trans (hx6.mono hbel2.size)⟩
      · rw [hrb] at hrt
        generalize rankL (enc a) = A at *
        have Hrs := Lib.hid hrs
        have Hrt := Lib.hid hrt
        have Hus := Lib.hid hus
        clear hrs hrt hus hsa hra hua hrb ha61
        rcases hun with ⟨u, hu1, hu2, hu3, hu4⟩ | hu1
        · rw [hu1] at hu
          have hr := fun w => rank_c (strB (enc u)) w (by rw [strB_size, enc_len]; omega)
          rw [hu3] at hr
          have hv := fun w => valid1_c (strB (enc u)) w (by rw [strB_size, enc_len]; omega)
          rw [valid_enc u (by omega)] at hv
          have hp := fun w => r01_Pairs_c (strB (enc u)) w (by rw [strB_size, enc_len]; omega)
          rw [strB_data] at hp
          have h30 : (ones (enc u) : Int) ≤ 30 := by omega
          generalize ones (enc u) = on at *
          generalize strB (enc u) = U at *
          have Hu := Lib.hid hu
          have Hr := Lib.hid hr
          have Hv := Lib.hid hv
          have Hp := Lib.hid hp
          clear hu hr hv hp hu1 hu3
          go_enter Try.func6, Try.ntmps6
          go_wp2_with fail
          refine (Hu.out _).mono ?_
          rintro e w1 ⟨rfl, hb1⟩
          go_wp2_with fail
          refine (Hr.out _).mono ?_
          rintro e w2 ⟨rfl, hb2⟩
          go_wp2_with fail
          refine (Hv.out _).mono ?_
          rintro e w3 ⟨rfl, rfl⟩
          go_wp2_with fail
          refine (Hp.out _).mono ?_
          rintro e w4 ⟨rfl, rfl⟩
          have hbel := hb1.trans (hb2.mono hb1.size)
          clear hb1 hb2 h30
          go_wp2_with fail
          refine (Hrs.out _).mono ?_
          rintro e x1 ⟨rfl, hx1⟩
          go_wp2_with fail
          refine (Hrt.out _).mono ?_
          rintro e x2 ⟨rfl, hx2⟩
          have hbel2 := hbel.trans ((hx1.mono hbel.size).trans (hx2.mono (Nat.le_trans hbel.size hx1.size)))
          clear hbel hx1 hx2 Hrs Hrt
          go_wp2_with fail
          refine (Hus.out _).mono ?_
          rintro e x3 ⟨rfl, hx3⟩
          have hbel2 := hbel2.trans (hx3.mono hbel2.size)
          clear hx3 Hus
          go_wp2_with fail
          refine (awake10_c _).mono ?_
          rintro e x6 ⟨rfl, hx6⟩
          go_wp2_with fail
          go_ret
          exact ⟨rfl, hbel2.trans (hx6.mono hbel2.size)⟩
        · rw [hu1] at hu
          have Hu := Lib.hid hu
          clear hu hu1
          go_enter Try.func6, Try.ntmps6
          go_wp2_with fail
          refine (Hu.out _).mono ?_
          rintro e w1 ⟨rfl, hbel⟩
          go_wp2_with fail
          refine (Hrs.out _).mono ?_
          rintro e x1 ⟨rfl, hx1⟩
          go_wp2_with fail
          refine (Hrt.out _).mono ?_
          rintro e x2 ⟨rfl, hx2⟩
          have hbel2 := hbel.trans ((hx1.mono hbel.size).trans (hx2.mono (Nat.le_trans hbel.size hx1.size)))
          clear hbel hx1 hx2 Hrs Hrt
          go_wp2_with fail
          refine (Hus.out _).mono ?_
          rintro e x3 ⟨rfl, hx3⟩
          have hbel2 := hbel2.trans (hx3.mono hbel2.size)
          clear hx3 Hus
          go_wp2_with fail
          refine (awake10_c _).mono ?_
          rintro e x6 ⟨rfl, hx6⟩
          go_wp2_with fail
          go_ret
          exact ⟨rfl, hbel2.trans (hx6.mono hbel2.size)⟩
    · rw [hra] at hrs
      obtain ⟨v, d, hrb⟩ : ∃ v d : Int, rankV t = .tuple #[.int .i64 v, .int .i64 d] := by
        rcases rank_cases t with ⟨b, _, _, hrb, _⟩ | ⟨c, _, _, hrb⟩
        · exact ⟨_, _, hrb⟩
        · exact ⟨_, _, hrb⟩
      rw [hrb] at hrt
      have Hrs := Lib.hid hrs
      have Hrt := Lib.hid hrt
      clear hrs hrt hra hrb
      rcases hun with ⟨u, hu1, hu2, hu3, hu4⟩ | hu1
      · rw [hu1] at hu
        have hr := fun w => rank_c (strB (enc u)) w (by rw [strB_size, enc_len]; omega)
        rw [hu3] at hr
        have hv := fun w => valid1_c (strB (enc u)) w (by rw [strB_size, enc_len]; omega)
        rw [valid_enc u (by omega)] at hv
        have hp := fun w => r01_Pairs_c (strB (enc u)) w (by rw [strB_size, enc_len]; omega)
        rw [strB_data] at hp
        have h30 : (ones (enc u) : Int) ≤ 30 := by omega
        generalize ones (enc u) = on at *
        generalize strB (enc u) = U at *
        have Hu := Lib.hid hu
        have Hr := Lib.hid hr
        have Hv := Lib.hid hv
        have Hp := Lib.hid hp
        clear hu hr hv hp hu1 hu3
        go_enter Try.func6, Try.ntmps6
        go_wp2_with fail
        refine (Hu.out _).mono ?_
        rintro e w1 ⟨rfl, hb1⟩
        go_wp2_with fail
        refine (Hr.out _).mono ?_
        rintro e w2 ⟨rfl, hb2⟩
        go_wp2_with fail
        refine (Hv.out _).mono ?_
        rintro e w3 ⟨rfl, rfl⟩
        go_wp2_with fail
        refine (Hp.out _).mono ?_
        rintro e w4 ⟨rfl, rfl⟩
        have hbel := hb1.trans (hb2.mono hb1.size)
        clear hb1 hb2 h30
        go_wp2_with fail
        refine (Hrs.out _).mono ?_
        rintro e x1 ⟨rfl, hx1⟩
        go_wp2_with fail
        refine (Hrt.out _).mono ?_
        rintro e x2 ⟨rfl, hx2⟩
        have hbel2 := hbel.trans ((hx1.mono hbel.size).trans (hx2.mono (Nat.le_trans hbel.size hx1.size)))
        clear hbel hx1 hx2 Hrs Hrt
        go_wp2_with fail
        refine (awake10_c _).mono ?_
        rintro e x6 ⟨rfl, hx6⟩
        go_wp2_with fail
        go_ret
        exact ⟨rfl, hbel2.trans (hx6.mono hbel2.size)⟩
      · rw [hu1] at hu
        have Hu := Lib.hid hu
        clear hu hu1
        go_enter Try.func6, Try.ntmps6
        go_wp2_with fail
        refine (Hu.out _).mono ?_
        rintro e w1 ⟨rfl, hbel⟩
        go_wp2_with fail
        refine (Hrs.out _).mono ?_
        rintro e x1 ⟨rfl, hx1⟩
        go_wp2_with fail
        refine (Hrt.out _).mono ?_
        rintro e x2 ⟨rfl, hx2⟩
        have hbel2 := hbel.trans ((hx1.mono hbel.size).trans (hx2.mono (Nat.le_trans hbel.size hx1.size)))
        clear hbel hx1 hx2 Hrs Hrt
        go_wp2_with fail
        refine (awake10_c _).mono ?_
        rintro e x6 ⟨rfl, hx6⟩
        go_wp2_with fail
        go_ret
        exact ⟨rfl, hbel2.trans (hx6.mono hbel2.size)⟩

end Go.Proofs.Ythmnbciefpkpmaa
