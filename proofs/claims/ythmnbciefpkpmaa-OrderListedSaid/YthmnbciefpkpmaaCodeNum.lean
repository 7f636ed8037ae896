/- The walk of code.number. -/
import Derived.Test.YthmnbciefpkpmaaNext
import Derived.Test.YthmnbciefpkpmaaCodeT
namespace Go.Proofs.Ythmnbciefpkpmaa
open Go.RowKit

theorem enc_numT : ∀ n, enc (numT n) = (List.replicate n [(49 : UInt8), 48]).flatten ++ [48]
  | 0 => rfl
  | n + 1 => by
    have h := enc_numT n
    simp only [numT, enc, List.replicate_succ, List.flatten_cons, h]
    rfl

/-- a string of bytes -/
abbrev strB (l : List UInt8) : ByteArray := ⟨l.toArray⟩

theorem strB_size (l : List UInt8) : (strB l).size = l.length := by simp [ByteArray.size]
theorem strB_app (a b : List UInt8) : strB a ++ strB b = strB (a ++ b) := ba_eq (by simp)

set_option maxRecDepth 100000 in
theorem num_c (n : Nat) (w : World) (h : n ≤ 10000000) :
    Calls Try.prog 116 #[.int .i64 n] w fun e w' => e = .returned (.string (strB (enc (numT n)))) ∧ Below w.heap.size w w' := by
  have h1 : ∀ w, Calls Try.prog 136 #[.string ⟨#[49, 48]⟩, .int .i64 n] w fun e w' => e = .returned (.string (strB ((List.replicate n [(49 : UInt8), 48]).flatten))) ∧ Below w.heap.size w w' := fun w => repeat2_c n w h
  have hz : (strB ((List.replicate n [(49 : UInt8), 48]).flatten)).size ≤ 20000000 := by rw [strB_size]; simp; omega
  have he : strB ((List.replicate n [(49 : UInt8), 48]).flatten) ++ ⟨#[48]⟩ = strB (enc (numT n)) := by
    rw [enc_numT, ← strB_app]
  generalize strB ((List.replicate n [(49 : UInt8), 48]).flatten) = u at *
  generalize strB (enc (numT n)) = v at *
  have H1 := Lib.hid h1
  have He := Lib.hid he
  clear h1 he
  go_enter Try.func116, Try.ntmps116
  go_wp2_with fail
  refine (H1.out _).mono ?_
  rintro e w1 ⟨rfl, hb1⟩
  go_wp2_with fail
  go_ret
  exact ⟨by rw [← He.out]; rfl, hb1⟩

end Go.Proofs.Ythmnbciefpkpmaa
