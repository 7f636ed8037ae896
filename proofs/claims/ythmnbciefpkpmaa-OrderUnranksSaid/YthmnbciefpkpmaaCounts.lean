/- The walks of OrderCounts and OrderUnranks of narcissuslaw10. -/
import Derived.Test.YthmnbciefpkpmaaRef10
namespace Go.Proofs.Ythmnbciefpkpmaa
open Go.RowKit

set_option maxRecDepth 100000 in
theorem counts_yes (K : Nat) (w : World) (h : K ≤ 30) :
    Calls Try.prog 9 #[.int .i64 K] w fun e w' => e = .returned (.bool true) ∧ Below w.heap.size w w' := by
  have hk1 : (K : Int) ≤ 30 := by omega
  have hk0 : (0 : Int) ≤ (K : Int) := by omega
  have h1 := fun w => count10_c K w h
  have h2 := fun w => count_yes K w h
  have heq : (((ways K 1 : Nat) : Int) == ((ways K 1 : Nat) : Int)) = true := by simp
  generalize ways K 1 = W at *
  have H1 := Lib.hid h1
  have H2 := Lib.hid h2
  clear h1 h2
  go_enter Try.func9, Try.ntmps9
  go_wp2_with fail
  refine (H1.out _).mono ?_
  rintro e w1 ⟨rfl, hb1⟩
  go_wp2_with fail
  refine (H2.out _).mono ?_
  rintro e w2 ⟨rfl, hb2⟩
  have hbel := hb1.trans (hb2.mono hb1.size)
  go_wp2_with fail
  refine (awake10_c _).mono ?_
  rintro e w6 ⟨rfl, hb6⟩
  go_wp2_with fail
  go_ret
  exact ⟨rfl, hbel.trans (hb6.mono hbel.size)⟩

set_option maxRecDepth 100000 in
theorem counts_no (n : Int) (w : World) (h : n < 0 ∨ 30 < n) :
    Calls Try.prog 9 #[.int .i64 n] w fun e w' => e = .returned (.bool true) ∧ Below w.heap.size w w' := by
  have h2 := fun w => count_no n w h
  have H2 := Lib.hid h2
  clear h2
  rcases h with h | h
  · go_enter Try.func9, Try.ntmps9
    go_wp2_with fail
    refine (H2.out _).mono ?_
    rintro e w2 ⟨rfl, hbel⟩
    go_wp2_with fail
    refine (awake10_c _).mono ?_
    rintro e w6 ⟨rfl, hb6⟩
    go_wp2_with fail
    go_ret
    exact ⟨rfl, hbel.trans (hb6.mono hbel.size)⟩
  · have h0 : 0 ≤ n := by omega
    go_enter Try.func9, Try.ntmps9
    go_wp2_with fail
    refine (H2.out _).mono ?_
    rintro e w2 ⟨rfl, hbel⟩
    go_wp2_with fail
    refine (awake10_c _).mono ?_
    rintro e w6 ⟨rfl, hb6⟩
    go_wp2_with fail
    go_ret
    exact ⟨rfl, hbel.trans (hb6.mono hbel.size)⟩

theorem counts_c (n : Int) (w : World) : Calls Try.prog 9 #[.int .i64 n] w fun e w' => e = .returned (.bool true) ∧ Below w.heap.size w w' := by
  by_cases h : n < 0 ∨ 30 < n
  · exact counts_no n w h
  · obtain ⟨K, rfl⟩ : ∃ K : Nat, n = (K : Int) := ⟨n.toNat, by omega⟩
    exact counts_yes K w (by omega)

theorem unranks_same (n : Int) : (∃ s, unrank10V n = .tuple #[.string s, .bool true] ∧ unrankV n = .tuple #[.string s, .int .i64 0]) ∨ (unrank10V n = .tuple #[.string ⟨#[]⟩, .bool false] ∧ unrankV n = .tuple #[.string ⟨#[]⟩, .int .i64 2]) := by
  unfold unrank10V unrankV
  by_cases h : n < 0
  · rw [if_pos h, if_pos h]; exact Or.inr ⟨rfl, rfl⟩
  · rw [if_neg h, if_neg h]
    cases unrankL n.toNat with
    | none => exact Or.inr ⟨rfl, rfl⟩
    | some l => exact Or.inl ⟨strB l, rfl, rfl⟩

set_option maxRecDepth 100000 in
theorem unranks_c (n : Int) (w : World) (hn : n ≤ 9223372036854775807) :
    Calls Try.prog 4 #[.int .i64 n] w fun e w' => e = .returned (.bool true) ∧ Below w.heap.size w w' := by
  have h1 := fun w => unrank10_c n w hn
  have h2 := fun w => unrank_c n w hn
  rcases unranks_same n with ⟨s, e1, e2⟩ | ⟨e1, e2⟩
  · rw [e1] at h1
    rw [e2] at h2
    have heq : (s.toList == s.toList) = true := by simp
    have H1 := Lib.hid h1
    have H2 := Lib.hid h2
    clear h1 h2 e1 e2
    go_enter Try.func4, Try.ntmps4
    go_wp2_with fail
    refine (H1.out _).mono ?_
    rintro e w1 ⟨rfl, hb1⟩
    go_wp2_with fail
    refine (H2.out _).mono ?_
    rintro e w2 ⟨rfl, hb2⟩
    have hbel := hb1.trans (hb2.mono hb1.size)
    go_wp2_with fail
    refine (awake10_c _).mono ?_
    rintro e w6 ⟨rfl, hb6⟩
    go_wp2_with fail
    go_ret
    exact ⟨rfl, hbel.trans (hb6.mono hbel.size)⟩
  · rw [e1] at h1
    rw [e2] at h2
    have H1 := Lib.hid h1
    have H2 := Lib.hid h2
    clear h1 h2 e1 e2
    go_enter Try.func4, Try.ntmps4
    go_wp2_with fail
    refine (H1.out _).mono ?_
    rintro e w1 ⟨rfl, hb1⟩
    go_wp2_with fail
    refine (H2.out _).mono ?_
    rintro e w2 ⟨rfl, hb2⟩
    have hbel := hb1.trans (hb2.mono hb1.size)
    go_wp2_with fail
    refine (awake10_c _).mono ?_
    rintro e w6 ⟨rfl, hb6⟩
    go_wp2_with fail
    go_ret
    exact ⟨rfl, hbel.trans (hb6.mono hbel.size)⟩

end Go.Proofs.Ythmnbciefpkpmaa
