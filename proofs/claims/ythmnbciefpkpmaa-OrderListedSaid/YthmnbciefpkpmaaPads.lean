/- The walk of the function pads of narcissustop. -/
import Derived.Test.YthmnbciefpkpmaaPadRun
import Derived.Test.YthmnbciefpkpmaaNext
namespace Go.Proofs.Ythmnbciefpkpmaa
open Go.RowKit

theorem next_one : nextV ⟨#[49, 49, 48, 48, 48]⟩ = .tuple #[.string ⟨#[49, 48, 49, 48, 49, 48, 48]⟩, .int .i64 0] := by kernel_rfl

theorem progIn_nil (w : World) : ProgIn w none 0 0 [] := ⟨fun h => absurd rfl h, fun i hi => absurd hi (Nat.not_lt_zero i), fun h => absurd rfl h, fun x hx => by simp at hx⟩

set_option maxRecDepth 100000 in
theorem pads_c (w : World) : Calls Try.prog 70 #[] w fun e w' => e = .returned (.bool true) ∧ Below w.heap.size w w' := by
  have h1 := fun w => pad_yes none 0 0 0 [] 2 w (progIn_nil w) (fun _ => rfl) rfl (by omega) (by simp)
  have h2 := fun w => next_c ⟨#[49, 49, 48, 48, 48]⟩ w (by have : (⟨#[49, 49, 48, 48, 48]⟩ : ByteArray).size = 5 := rfl; omega)
  rw [next_one] at h2
  have H1 := Lib.hid h1
  have H2 := Lib.hid h2
  clear h1 h2
  go_enter Try.func70, Try.ntmps70
  go_wp2_with (first | (go_at_call 47; refine (H1.out _).mono ?_; rintro e w1 ⟨⟨g, rfl, hg⟩, hb1⟩) | (go_at_call 31; refine (H2.out _).mono ?_; rintro e w2 ⟨rfl, hb2⟩))
  go_ret
  exact ⟨rfl, hb1.trans (hb2.mono hb1.size)⟩

end Go.Proofs.Ythmnbciefpkpmaa
