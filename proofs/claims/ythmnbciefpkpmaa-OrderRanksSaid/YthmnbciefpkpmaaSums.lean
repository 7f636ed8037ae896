/- The walk of OrderSums of narcissuslaw10. -/
import Derived.Test.YthmnbciefpkpmaaCount
import Derived.IntWalk
namespace Go.Proofs.Ythmnbciefpkpmaa
open Go.RowKit

theorem conv_mono (k a b : Nat) {i j : Nat} (h : i ≤ j) : conv k a b i ≤ conv k a b j := by
  induction j with
  | zero => have : i = 0 := by omega
            subst this; exact Nat.le_refl _
  | succ j ih =>
    rcases Nat.lt_or_ge j i with h1 | h1
    · have : i = j + 1 := by omega
      subst this; exact Nat.le_refl _
    · have := ih h1
      rw [conv]; omega

theorem sums_no (n : Int) (w : World) (h : n < 0 ∨ 30 ≤ n) :
    Calls Try.prog 10 #[.int .i64 n] w fun e w' => e = .returned (.bool true) ∧ Below w.heap.size w w' := by
  rcases h with h | h
  · go_enter Try.func10, Try.ntmps10
    go_wp2_with fail
    refine (awake10_c _).mono ?_
    rintro e w2 ⟨rfl, hb⟩
    go_wp2_with fail
    go_ret
    exact ⟨rfl, hb⟩
  · have h' : ¬ n < 0 := by omega
    go_enter Try.func10, Try.ntmps10
    go_wp2_with fail
    refine (awake10_c _).mono ?_
    rintro e w2 ⟨rfl, hb⟩
    go_wp2_with fail
    go_ret
    exact ⟨rfl, hb⟩

set_option maxRecDepth 100000 in
theorem sums_yes (K : Nat) (w : World) (h : K < 30) :
    Calls Try.prog 10 #[.int .i64 K] w fun e w' => e = .returned (.bool true) ∧ Below w.heap.size w w' := by
  have hk1 : (K : Int) < 30 := by omega
  have hk0 : (0 : Int) ≤ (K : Int) := by omega
  have htot := conv_count K
  have hlim := ways_lim (k := K + 1) (o := 1) (by omega) (by omega)
  have Htot := Lib.hid (And.intro htot hlim)
  clear htot hlim
  go_enter Try.func10, Try.ntmps10
  go_wp2_with fail
  go_loopw [3, 4] (fun s i wr => ∃ j : Nat, j ≤ K + 1 ∧ i = .int .i64 j ∧ s = .int .i64 (conv K 1 1 j) ∧ Below w.heap.size w wr ∧ w.heap.size ≤ wr.heap.size) (fun _ i _ => K + 1 - (intOf i).toNat)
  case atStart => exact ⟨0, by omega, rfl, rfl, Below.refl _ _, Nat.le_refl _⟩
  case round =>
    obtain ⟨j, hj, rfl, rfl, hbel, hBw⟩ := hrel
    by_cases hlt : (j : Int) ≤ (K : Int)
    · have h1 := fun w => count_yes j w (by omega)
      have h2 := fun w => count_yes (K - j) w (by omega)
      have hsub : ((K - j : Nat) : Int) = (K : Int) - (j : Int) := by omega
      rw [hsub] at h2
      have hs2 : conv K 1 1 (j + 1) = conv K 1 1 j + ways j 1 * ways (K - j) 1 := rfl
      have hm := conv_mono K 1 1 (show j + 1 ≤ K + 1 by omega)
      rw [Htot.out.1] at hm
      have hl := Htot.out.2
      have h0 : j = 0 → ways j 1 = 1 := fun e => by subst e; exact ways_zero 1
      generalize ways (K + 1) 1 = W at *
      generalize conv K 1 1 j = C at *
      generalize ways j 1 = A at *
      generalize ways (K - j) 1 = D at *
      have hmul : IntKind.i64.wrap ((A : Int) * (D : Int)) = ((A * D : Nat) : Int) := by
        rw [← Int.natCast_mul]
        exact IntWalk.i64_in _ (by omega)
      generalize hAD : A * D = P at *
      have HAD := Lib.hid hAD
      clear hAD
      have hP : C + P ≤ 2305843009213693952 := by omega
      have H1 := Lib.hid h1
      have H2 := Lib.hid h2
      have HS := Lib.hid hs2
      have H0 := Lib.hid h0
      clear h1 h2 hs2 hsub hm hl h0
      go_wp2_with fail
      refine (H1.out _).mono ?_
      rintro e w1 ⟨rfl, hb1⟩
      go_wp2_with fail
      refine (H2.out _).mono ?_
      rintro e w2 ⟨rfl, hb2⟩
      have hbel2 := hbel.trans ((hb1.mono hBw).trans (hb2.mono (Nat.le_trans hBw hb1.size)))
      clear hbel hb1 hb2 H1 H2
      by_cases hj0 : j = 0
      · subst hj0
        obtain rfl := H0.out rfl
        have hPD : P = D := by rw [← HAD.out, Nat.one_mul]
        subst hPD
        clear hmul
        go_wp2_with fail
        go_roundw
        case rel => exact ⟨1, by omega, rfl, by show _ = Value.int .i64 ((conv K 1 1 (0 + 1) : Nat) : Int); rw [HS.out]; go_num, hbel2, by have := hbel2.size; omega⟩
        case measure => simp [intOf] <;> omega
      · have hjb : ((j : Int) == 0) = false := by simp; omega
        clear hj0
        go_wp2_with fail
        go_roundw
        case rel => exact ⟨j + 1, by omega, by go_num, by rw [HS.out]; go_num, hbel2, by have := hbel2.size; omega⟩
        case measure => simp [intOf] <;> omega
    · obtain rfl : j = K + 1 := by omega
      have h1 := fun w => count_yes (K + 1) w (by omega)
      have hci : ((K + 1 : Nat) : Int) = (K : Int) + 1 := by omega
      rw [hci] at h1
      have ht := Htot.out.1
      generalize conv K 1 1 (K + 1) = C at *
      generalize ways (K + 1) 1 = W at *
      have heq : ((W : Int) == (C : Int)) = true := by simp [ht]
      have H1 := Lib.hid h1
      clear ht h1
      go_wp2_with fail
      refine (H1.out _).mono ?_
      rintro e w1 ⟨rfl, hb1⟩
      go_wp2_with fail
      refine (awake10_c _).mono ?_
      rintro e w2 ⟨rfl, hb2⟩
      go_wp2_with fail
      go_ret
      exact ⟨rfl, hbel.trans ((hb1.mono hBw).trans (hb2.mono (Nat.le_trans hBw hb1.size)))⟩

theorem sums_c (n : Int) (w : World) : Calls Try.prog 10 #[.int .i64 n] w fun e w' => e = .returned (.bool true) ∧ Below w.heap.size w w' := by
  by_cases h : n < 0 ∨ 30 ≤ n
  · exact sums_no n w h
  · obtain ⟨K, rfl⟩ : ∃ K : Nat, n = (K : Int) := ⟨n.toNat, by omega⟩
    exact sums_yes K w (by omega)

end Go.Proofs.Ythmnbciefpkpmaa
