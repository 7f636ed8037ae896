/- The walk of OrderLists of narcissuslaw10. -/
import Derived.Test.YthmnbciefpkpmaaListing10
import Derived.Test.YthmnbciefpkpmaaAwake10
namespace Go.Proofs.Ythmnbciefpkpmaa
open Go.RowKit

set_option maxRecDepth 100000 in
theorem lists_yes (m : Nat) (w : World) (h : m ≤ 11) :
    Calls Try.prog 5 #[.int .i64 m] w fun e w' => e = .returned (.bool true) ∧ Below w.heap.size w w' := by
  have hk1 : (m : Int) ≤ 11 := by omega
  have hk0 : (0 : Int) ≤ (m : Int) := by omega
  have h1 := fun w => programs10_c m w h
  have h2 := fun w => programs_c m w h
  have hln : (progs m).length ≤ 20000000 := by
    have := progsTo_len (base (m + 1))
    have := base_12 h
    unfold progs; omega
  have hgd := fun l (hl : l ∈ progs m) => (progs_good hl).2
  unfold Prg10Post at h1
  unfold PrgPost at h2
  generalize progs m = ps at *
  have H1 := Lib.hid h1
  have H2 := Lib.hid h2
  have Hg := Lib.hid hgd
  clear h1 h2 hgd
  go_enter Try.func5, Try.ntmps5
  go_wp2_with fail
  refine (H1.out _).mono ?_
  rintro e w1 ⟨⟨ao, cap, rfl, hp1⟩, hb1⟩
  go_wp2_with fail
  refine (H2.out _).mono ?_
  rintro e w2 ⟨⟨bo, cap', rfl, hp2⟩, hb2⟩
  have hbel := hb1.trans (hb2.mono hb1.size)
  have hs := same8_c bo ao w1.heap.size w.heap.size cap' cap ps w2 hp2 (hp1.keep (KeepTy.below hb2) (KeepTy.below hb2)) hln Hg.out
  have Hs := Lib.hid hs
  clear hs hp1 hp2 hb1 hb2
  go_wp2_with fail
  refine Hs.out.mono ?_
  rintro e w3 ⟨rfl, n3, rfl⟩
  have hbel3 := below_drewN hbel n3
  go_wp2_with fail
  refine (awake10_c _).mono ?_
  rintro e w6 ⟨rfl, hb6⟩
  go_wp2_with fail
  go_ret
  exact ⟨rfl, hbel3.trans (hb6.mono hbel3.size)⟩

set_option maxRecDepth 100000 in
theorem lists_no (n : Int) (w : World) (h : n < 0 ∨ 11 < n) :
    Calls Try.prog 5 #[.int .i64 n] w fun e w' => e = .returned (.bool true) ∧ Below w.heap.size w w' := by
  have h2 := fun w => programs_no n w h
  have H2 := Lib.hid h2
  clear h2
  rcases h with h | h
  · go_enter Try.func5, Try.ntmps5
    go_wp2_with fail
    refine (H2.out _).mono ?_
    rintro e w2 ⟨rfl, hbel⟩
    go_wp2_with fail
    refine (awake10_c _).mono ?_
    rintro e w6 ⟨rfl, hb6⟩
    go_wp2_with fail
    go_ret
    exact ⟨rfl, hbel.trans (hb6.mono hbel.size)⟩
  · have h0 : 0 ≤ n := by omega
    go_enter Try.func5, Try.ntmps5
    go_wp2_with fail
    refine (H2.out _).mono ?_
    rintro e w2 ⟨rfl, hbel⟩
    go_wp2_with fail
    refine (awake10_c _).mono ?_
    rintro e w6 ⟨rfl, hb6⟩
    go_wp2_with fail
    go_ret
    exact ⟨rfl, hbel.trans (hb6.mono hbel.size)⟩

theorem lists_c (n : Int) (w : World) :
    Calls Try.prog 5 #[.int .i64 n] w fun e w' => e = .returned (.bool true) ∧ Below w.heap.size w w' := by
  by_cases h : n < 0 ∨ 11 < n
  · exact lists_no n w h
  · have := lists_yes n.toNat w (by omega)
    rwa [show ((n.toNat : Nat) : Int) = n by omega] at this

end Go.Proofs.Ythmnbciefpkpmaa
