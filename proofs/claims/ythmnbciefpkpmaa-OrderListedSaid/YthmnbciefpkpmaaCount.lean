/- The walk of order.Count. -/
import Derived.Test.YthmnbciefpkpmaaAwake10
namespace Go.Proofs.Ythmnbciefpkpmaa
open Go.RowKit

theorem count_no (n : Int) (w : World) (h : n < 0 ∨ 30 < n) :
    Calls Try.prog 43 #[.int .i64 n] w fun e w' => e = .returned (.tuple #[.int .i64 0, .int .i64 2]) ∧ Below w.heap.size w w' := by
  have ht : (decide (n < 0) || decide (30 < n)) = true := by simpa using h
  clear h
  go_enter Try.func43, Try.ntmps43
  go_wp2_with fail
  all_goals (go_ret2; exact ⟨rfl, Below.refl _ _⟩)

set_option maxRecDepth 100000 in
theorem count_yes (k : Nat) (w : World) (h : k ≤ 30) :
    Calls Try.prog 43 #[.int .i64 k] w fun e w' => e = .returned (.tuple #[.int .i64 (ways k 1), .int .i64 0]) ∧ Below w.heap.size w w' := by
  have hk : (k : Int) ≤ 30 := by omega
  have i1 : (0 : Int) ≤ (k : Int) := by omega
  have i2 : (k : Int) < 31 := by omega
  have i3 : k < 31 := by omega
  have htv := tv_full (i := k) (j := 1) (by omega) h
  generalize ways k 1 = W at *
  have Htv := Lib.hid htv
  clear htv h
  go_enter Try.func43, Try.ntmps43
  go_wp2_with fail
  refine (counted_c _).mono ?_
  rintro e w2 ⟨b, rfl, hbb, ht, hb2⟩
  have c1 := ht.cell k 1 i3 (by decide)
  rw [Htv.out] at c1
  go_wp2_with fail
  go_ret2
  exact ⟨rfl, hb2⟩

end Go.Proofs.Ythmnbciefpkpmaa
