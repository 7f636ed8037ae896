/- The walk of OrderRanks of narcissuslaw10. -/
import Derived.Test.YthmnbciefpkpmaaNext10
import Derived.Test.YthmnbciefpkpmaaAfter
namespace Go.Proofs.Ythmnbciefpkpmaa
open Go.RowKit

set_option maxRecDepth 100000 in
theorem ranks_big (s : ByteArray) (w : World) (h : (2100000 : Int) < s.size) :
    Calls Try.prog 3 #[.string s] w fun e w' => e = .returned (.bool true) ∧ Below w.heap.size w w' := by
  go_enter Try.func3, Try.ntmps3
  go_wp2_with fail
  refine (awake10_c _).mono ?_
  rintro e x6 ⟨rfl, hx6⟩
  go_wp2_with fail
  go_ret
  exact ⟨rfl, hx6⟩

set_option maxRecDepth 100000 in
theorem ranks_no (s : ByteArray) (w : World) (h : (s.size : Int) ≤ 2100000) (hv : validB s = false) :
    Calls Try.prog 3 #[.string s] w fun e w' => e = .returned (.bool true) ∧ Below w.heap.size w w' := by
  have h1 := fun w => valid1_c s w (by omega)
  rw [hv] at h1
  have h2 := fun w => rank_c s w (by omega)
  have h3 := fun w => next_c s w (by omega)
  have e2 : rankV s = .tuple #[.int .i64 0, .int .i64 1] := by unfold rankV; rw [hv]; rfl
  have e3 : nextV s = .tuple #[.string ⟨#[]⟩, .int .i64 1] := by unfold nextV; rw [hv]; rfl
  rw [e2] at h2
  rw [e3] at h3
  have Hv := Lib.hid h1
  have Hr := Lib.hid h2
  have Hn := Lib.hid h3
  clear h1 h2 h3 e2 e3 hv
  go_enter Try.func3, Try.ntmps3
  go_wp2_with fail
  refine (Hv.out _).mono ?_
  rintro e x1 ⟨rfl, rfl⟩
  have hbel := Below.refl w.heap.size w
  go_wp2_with fail
  refine (Hr.out _).mono ?_
  rintro e y1 ⟨rfl, hy1⟩
  go_wp2_with fail
  refine (Hn.out _).mono ?_
  rintro e y2 ⟨rfl, hy2⟩
  have hbel2 := hbel.trans ((hy1.mono hbel.size).trans (hy2.mono (Nat.le_trans hbel.size hy1.size)))
  clear hbel hy1 hy2 Hr Hn
  go_wp2_with fail
  refine (awake10_c _).mono ?_
  rintro e x6 ⟨rfl, hx6⟩
  go_wp2_with fail
  go_ret
  exact ⟨rfl, hbel2.trans (hx6.mono hbel2.size)⟩

set_option maxRecDepth 100000 in
set_option maxHeartbeats 2000000 in
theorem ranks_yes (t : T) (w : World) (h : t.size ≤ 2000000) :
    Calls Try.prog 3 #[.string (strB (enc t))] w fun e w' => e = .returned (.bool true) ∧ Below w.heap.size w w' := by
  have z1 : (strB (enc t)).size = t.size := by rw [strB_size, enc_len]
  have hvt := valid_enc t h
  have h1 := fun w => valid1_c (strB (enc t)) w (by omega)
  rw [hvt] at h1
  have h2 := fun w => rank_c (strB (enc t)) w (by omega)
  have h3 := fun w => next_c (strB (enc t)) w (by omega)
  have h4 := fun w => next10_c (strB (enc t)) w hvt
  have h5 := fun w => r10_Pairs_c (strB (enc t)) w (by omega)
  rw [rank_valid h] at h2
  obtain ⟨k, hw⟩ := enc_word t
  have hon := hw.ones
  have hl := hw.len
  rw [enc_len] at hl
  rw [strB_data, hon] at h5
  have hpr : t.size / 2 = k := by omega
  have e3 : nextV (strB (enc t)) = if (nxt (strB (enc t)).data.toList (strB (enc t)).size 0 0).length ≤ 2000000 then .tuple #[.string (strB (nxt (strB (enc t)).data.toList (strB (enc t)).size 0 0)), .int .i64 0] else .tuple #[.string ⟨#[]⟩, .int .i64 3] := by
    unfold nextV; rw [if_pos hvt]
  have hnl : t.size ≤ 61 → (nxt (strB (enc t)).data.toList (strB (enc t)).size 0 0).length ≤ 2000000 := by
    intro h61
    have e := next_tree (t := t) h61
    rw [e3] at e
    split at e
    · assumption
    · simp at e
  rw [e3] at h3
  have h6 := fun (h61 : t.size ≤ 61) w => rank10_c t w h61
  have hNz : (strB (nxt (strB (enc t)).data.toList (strB (enc t)).size 0 0)).size = (nxt (strB (enc t)).data.toList (strB (enc t)).size 0 0).length := strB_size _
  generalize nxt (strB (enc t)).data.toList (strB (enc t)).size 0 0 = N at *
  have heqN : ((strB N).toList == (strB N).toList) = true := by simp
  generalize strB (enc t) = s at *
  generalize strB N = SN at *
  have s1 : (s.size : Int) ≤ 2000000 := by omega
  have Hv := Lib.hid h1
  have Hn10 := Lib.hid h4
  have Hp := Lib.hid h5
  by_cases h30 : k ≤ 30
  · have hN := hnl (by omega)
    rw [if_pos hN] at h3
    rw [if_pos (by omega)] at h2
    have hNi : (SN.size : Int) ≤ 2000000 := by omega
    have h61 := fun w => h6 (by omega) w
    have hk : (k : Int) ≤ 30 := by omega
    have heqR : (((rankL (enc t) : Nat) : Int) == ((rankL (enc t) : Nat) : Int)) = true := by simp
    generalize rankL (enc t) = R at *
    have Hr := Lib.hid h2
    have Hn := Lib.hid h3
    have Hr10 := Lib.hid h61
    clear h1 h2 h3 h4 h5 h6 h61 hvt hon hl hw hpr e3 hnl hNz hN z1 h h30
    go_enter Try.func3, Try.ntmps3
    go_wp2_with fail
    refine (Hv.out _).mono ?_
    rintro e x1 ⟨rfl, rfl⟩
    go_wp2_with fail
    refine (Hp.out _).mono ?_
    rintro e x2 ⟨rfl, rfl⟩
    go_wp2_with fail
    refine (Hr10.out _).mono ?_
    rintro e x3 ⟨rfl, hbel0⟩
    go_wp2_with fail
    refine (Hn10.out _).mono ?_
    rintro e x4 ⟨rfl, hx4⟩
    have hbel := hbel0.trans (hx4.mono hbel0.size)
    clear hbel0 hx4
    go_wp2_with fail
    refine (Hr.out _).mono ?_
    rintro e y1 ⟨rfl, hy1⟩
    go_wp2_with fail
    refine (Hn.out _).mono ?_
    rintro e y2 ⟨rfl, hy2⟩
    have hbel2 := hbel.trans ((hy1.mono hbel.size).trans (hy2.mono (Nat.le_trans hbel.size hy1.size)))
    clear hbel hy1 hy2 Hr Hn
    go_wp2_with fail
    refine (awake10_c _).mono ?_
    rintro e x6 ⟨rfl, hx6⟩
    go_wp2_with fail
    go_ret
    exact ⟨rfl, hbel2.trans (hx6.mono hbel2.size)⟩
  · rw [if_neg (by omega)] at h2
    have hk : (30 : Int) < (k : Int) := by omega
    have Hr := Lib.hid h2
    by_cases hN : N.length ≤ 2000000
    · rw [if_pos hN] at h3
      have hNi : (SN.size : Int) ≤ 2000000 := by omega
      have Hn := Lib.hid h3
      clear h1 h2 h3 h4 h5 h6 hvt hon hl hw hpr e3 hnl hNz hN z1 h h30
      go_enter Try.func3, Try.ntmps3
      go_wp2_with fail
      refine (Hv.out _).mono ?_
      rintro e x1 ⟨rfl, rfl⟩
      go_wp2_with fail
      refine (Hp.out _).mono ?_
      rintro e x2 ⟨rfl, rfl⟩
      go_wp2_with fail
      refine (Hn10.out _).mono ?_
      rintro e x4 ⟨rfl, hx4⟩
      have hbel := hx4
      go_wp2_with fail
      refine (Hr.out _).mono ?_
      rintro e y1 ⟨rfl, hy1⟩
      go_wp2_with fail
      refine (Hn.out _).mono ?_
      rintro e y2 ⟨rfl, hy2⟩
      have hbel2 := hbel.trans ((hy1.mono hbel.size).trans (hy2.mono (Nat.le_trans hbel.size hy1.size)))
      clear hbel hy1 hy2 Hr Hn
      go_wp2_with fail
      refine (awake10_c _).mono ?_
      rintro e x6 ⟨rfl, hx6⟩
      go_wp2_with fail
      go_ret
      exact ⟨rfl, hbel2.trans (hx6.mono hbel2.size)⟩
    · rw [if_neg hN] at h3
      have hNi : (2000000 : Int) < (SN.size : Int) := by omega
      have Hn := Lib.hid h3
      clear h1 h2 h3 h4 h5 h6 hvt hon hl hw hpr e3 hnl hNz hN z1 h h30
      go_enter Try.func3, Try.ntmps3
      go_wp2_with fail
      refine (Hv.out _).mono ?_
      rintro e x1 ⟨rfl, rfl⟩
      go_wp2_with fail
      refine (Hp.out _).mono ?_
      rintro e x2 ⟨rfl, rfl⟩
      go_wp2_with fail
      refine (Hn10.out _).mono ?_
      rintro e x4 ⟨rfl, hx4⟩
      have hbel := hx4
      go_wp2_with fail
      refine (Hr.out _).mono ?_
      rintro e y1 ⟨rfl, hy1⟩
      go_wp2_with fail
      refine (Hn.out _).mono ?_
      rintro e y2 ⟨rfl, hy2⟩
      have hbel2 := hbel.trans ((hy1.mono hbel.size).trans (hy2.mono (Nat.le_trans hbel.size hy1.size)))
      clear hbel hy1 hy2 Hr Hn
      go_wp2_with fail
      refine (awake10_c _).mono ?_
      rintro e x6 ⟨rfl, hx6⟩
      go_wp2_with fail
      go_ret
      exact ⟨rfl, hbel2.trans (hx6.mono hbel2.size)⟩

theorem ranks_c (s : ByteArray) (w : World) : Calls Try.prog 3 #[.string s] w fun e w' => e = .returned (.bool true) ∧ Below w.heap.size w w' := by
  by_cases h : (2100000 : Int) < s.size
  · exact ranks_big s w h
  · cases hv : validB s with
    | false => exact ranks_no s w (by omega) hv
    | true =>
      obtain ⟨t, ht, hz⟩ := (validB_iff s).1 hv
      have es : s = strB (enc t) := by rw [← ht, strB_toList]
      rw [es]
      exact ranks_yes t w hz

end Go.Proofs.Ythmnbciefpkpmaa
