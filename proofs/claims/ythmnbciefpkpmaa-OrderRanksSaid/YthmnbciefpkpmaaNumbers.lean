/- The walk of OrderNumbers of narcissuslaw10. -/
import Derived.Test.YthmnbciefpkpmaaSums
import Derived.Test.YthmnbciefpkpmaaRef1
namespace Go.Proofs.Ythmnbciefpkpmaa
open Go.RowKit

theorem numbers_no (n : Int) (w : World) (h : n < 1 ∨ 30 < n) :
    Calls Try.prog 11 #[.int .i64 n] w fun e w' => e = .returned (.bool true) ∧ Below w.heap.size w w' := by
  rcases h with h | h
  · go_enter Try.func11, Try.ntmps11
    go_wp2_with fail
    refine (awake10_c _).mono ?_
    rintro e w2 ⟨rfl, hb⟩
    go_wp2_with fail
    go_ret
    exact ⟨rfl, hb⟩
  · have h' : ¬ n < 1 := by omega
    go_enter Try.func11, Try.ntmps11
    go_wp2_with fail
    refine (awake10_c _).mono ?_
    rintro e w2 ⟨rfl, hb⟩
    go_wp2_with fail
    go_ret
    exact ⟨rfl, hb⟩

theorem least_tree (k : Nat) : ∃ t, leastL k 1 = enc t := word_tree (least_word k 0).1

theorem least_rank (k : Nat) : rankL (leastL k 1) = base k := by
  have h := least_word k 0
  rw [rankL_word h.1]
  have h2 : rk (leastL k 1) k 1 = 0 := h.2
  rw [h2, Nat.add_zero]

theorem rank_least (k : Nat) (h : k ≤ 30) : rankV (strB (leastL k 1)) = .tuple #[.int .i64 (base k), .int .i64 0] := by
  obtain ⟨t, ht⟩ := least_tree k
  have hl : (enc t).length = 2 * k + 1 := by rw [← ht, leastL_len _ _ (by omega)]
  rw [enc_len] at hl
  have h1 := (rank_tree10 t (by omega)).1
  rw [← ht, least_rank] at h1
  exact h1

theorem unrank_base {k : Nat} (hk : 1 ≤ k) (h : k ≤ 30) : unrankV ((base k : Int) - 1) = .tuple #[.string (strB (enc (treeAt (base k - 1)))), .int .i64 0] ∧ nextL (enc (treeAt (base k - 1))) = leastL k 1 ∧ base k - 1 < base 31 := by
  have h0 : 1 ≤ base k := by have := base_mono hk; rw [base_one] at this; exact this
  have h31 : base k < base 31 := by
    have h1 := base_mono (show k + 1 ≤ 31 by omega)
    have h2 := base_lt k
    omega
  have hlt : base k - 1 < base 31 := by omega
  obtain ⟨kk, hkk, hw, hr⟩ := treeAt_spec hlt
  have hu : unrankL (base k - 1) = some (enc (treeAt (base k - 1))) := by
    rw [← unrank_rank hw hkk, hr]
  refine ⟨?_, ?_, hlt⟩
  · unfold unrankV
    have e : ((base k : Int) - 1).toNat = base k - 1 := by omega
    rw [if_neg (by omega), e, hu]
  · obtain ⟨k', hw', hr'⟩ := nextL_word hw
    exact rank_inj hw' (least_word k 0).1 (by rw [hr', hr, least_rank]; omega)

set_option maxRecDepth 100000 in
theorem numbers_yes (K : Nat) (w : World) (h1 : 1 ≤ K) (h : K ≤ 30) :
    Calls Try.prog 11 #[.int .i64 K] w fun e w' => e = .returned (.bool true) ∧ Below w.heap.size w w' := by
  have hk1 : (K : Int) ≤ 30 := by omega
  have hk0 : (1 : Int) ≤ (K : Int) := by omega
  have hbm := fun j (hj : j ≤ K) => base_mono hj
  have hlim := base_lim31 (k := K) (by omega)
  have h0 : 1 ≤ base K := by have := base_mono h1; rw [base_one] at this; exact this
  have hrk := rank_least K h
  obtain ⟨hub, hnx, hlt31⟩ := unrank_base h1 h
  have hn := fun w => number1_c K w (by omega)
  have hz : (strB (leastL K 1)).size ≤ 100 := by rw [strB_size, leastL_len _ _ (by omega)]; omega
  have hr := fun w => rank_c (strB (leastL K 1)) w (by omega)
  rw [hrk] at hr
  have hu := fun w => unrank_c ((base K : Int) - 1) w (by omega)
  rw [hub] at hu
  have hts := treeAt_size hlt31
  have hnext := fun w => next_c (strB (enc (treeAt (base K - 1)))) w (by rw [strB_size, enc_len]; omega)
  rw [next_tree hts, hnx] at hnext
  have Hbm := Lib.hid hbm
  have Hn := Lib.hid hn
  have Hr := Lib.hid hr
  have Hu := Lib.hid hu
  have Hnext := Lib.hid hnext
  clear hbm hn hr hu hnext hrk hub hnx hlt31 hts h1
  generalize strB (leastL K 1) = N at *
  generalize strB (enc (treeAt (base K - 1))) = L at *
  have heq : (N.toList == N.toList) = true := by simp
  go_enter Try.func11, Try.ntmps11
  go_wp2_with fail
  go_loopw [3, 4] (fun s i wr => ∃ j : Nat, j ≤ K ∧ i = .int .i64 j ∧ s = .int .i64 (base j) ∧ Below w.heap.size w wr ∧ w.heap.size ≤ wr.heap.size) (fun _ i _ => K - (intOf i).toNat)
  case atStart => exact ⟨0, by omega, rfl, rfl, Below.refl _ _, Nat.le_refl _⟩
  case round =>
    obtain ⟨j, hj, rfl, rfl, hbel, hBw⟩ := hrel
    by_cases hlt : (j : Int) < (K : Int)
    · have h1 := fun w => count_yes j w (by omega)
      have hs : base (j + 1) = base j + ways j 1 := rfl
      have hm := Hbm.out (j + 1) (by omega)
      rw [hs] at hm
      generalize ways j 1 = A at *
      generalize base j = C at *
      have H1 := Lib.hid h1
      have HS := Lib.hid hs
      clear h1 hs
      go_wp2_with fail
      refine (H1.out _).mono ?_
      rintro e w1 ⟨rfl, hb1⟩
      have hbel2 := hbel.trans (hb1.mono hBw)
      clear hbel hb1 H1
      go_wp2_with fail
      go_roundw
      case rel => exact ⟨j + 1, by omega, by go_num, by rw [HS.out]; go_num, hbel2, by have := hbel2.size; omega⟩
      case measure => simp [intOf] <;> omega
    · obtain rfl : j = K := by omega
      generalize base j = C at *
      have hC1 : (1 : Int) ≤ (C : Int) := by omega
      go_wp2_with fail
      refine (Hn.out _).mono ?_
      rintro e w1 ⟨rfl, hb1⟩
      go_wp2_with fail
      refine (Hr.out _).mono ?_
      rintro e w2 ⟨rfl, hb2⟩
      go_wp2_with fail
      refine (Hu.out _).mono ?_
      rintro e w3 ⟨rfl, hb3⟩
      go_wp2_with fail
      refine (Hnext.out _).mono ?_
      rintro e w4 ⟨rfl, hb4⟩
      go_wp2_with fail
      refine (Hn.out _).mono ?_
      rintro e w5 ⟨rfl, hb5⟩
      go_wp2_with fail
      refine (awake10_c _).mono ?_
      rintro e w6 ⟨rfl, hb6⟩
      go_wp2_with fail
      go_ret
      have s1 := Nat.le_trans hBw hb1.size
      have s2 := Nat.le_trans s1 hb2.size
      have s3 := Nat.le_trans s2 hb3.size
      have s4 := Nat.le_trans s3 hb4.size
      have s5 := Nat.le_trans s4 hb5.size
      exact ⟨rfl, hbel.trans ((hb1.mono hBw).trans ((hb2.mono s1).trans ((hb3.mono s2).trans ((hb4.mono s3).trans ((hb5.mono s4).trans (hb6.mono s5))))))⟩

theorem numbers_c (n : Int) (w : World) : Calls Try.prog 11 #[.int .i64 n] w fun e w' => e = .returned (.bool true) ∧ Below w.heap.size w w' := by
  by_cases h : n < 1 ∨ 30 < n
  · exact numbers_no n w h
  · obtain ⟨K, rfl⟩ : ∃ K : Nat, n = (K : Int) := ⟨n.toNat, by omega⟩
    exact numbers_yes K w (by omega) (by omega)

end Go.Proofs.Ythmnbciefpkpmaa
