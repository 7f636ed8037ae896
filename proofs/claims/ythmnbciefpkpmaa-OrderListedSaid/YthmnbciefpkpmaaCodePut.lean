/- The walks of the closures that write the fields of an instruction as a tree. -/
import Derived.Test.YthmnbciefpkpmaaCodeNum
import Derived.Test.YthmnbciefpkpmaaTopCode
namespace Go.Proofs.Ythmnbciefpkpmaa
open Go.RowKit

theorem enc_node (a b : T) : strB (enc (.node a b)) = (⟨#[49]⟩ : ByteArray) ++ strB (enc a) ++ strB (enc b) := by
  have h : (⟨#[49]⟩ : ByteArray) = strB [49] := rfl
  rw [h, strB_app, strB_app]
  simp [enc]

theorem nosum {n : Nat} (h : n ≤ 9223372036854775807) : (9223372036854775807 < n) = False := by simp; omega

set_option maxRecDepth 100000 in
theorem put_set (op b c : Int) (a : Nat) (s : ByteArray) (w : World) (ha : a ≤ 1000000) (hs : s.size ≤ 100000000) :
    Calls Try.prog 150 #[.agg #[.int .i64 op, .int .i64 a, .int .i64 b, .int .i64 c, .string s]] w fun e w' => e = .returned (.string ((⟨#[49]⟩ : ByteArray) ++ strB (enc (numT a)) ++ s)) ∧ Below w.heap.size w w' := by
  have h1 := fun w => num_c a w (by omega)
  have hz : (strB (enc (numT a))).size ≤ 2000001 := by rw [strB_size, enc_len, numT_size]; omega
  generalize strB (enc (numT a)) = u at *
  have H1 := Lib.hid h1
  clear h1
  have n1 := nosum (n := 1 + u.size) (by omega)
  have n2 := nosum (n := 1 + u.size + s.size) (by omega)
  go_enter Try.func150, Try.ntmps150
  go_wp2_with fail
  have e1 : (w.alloc (.cells #[.int .i64 op, .int .i64 a, .int .i64 b, .int .i64 c, .string s] 57 (0, 0))).cell? ⟨w.heap.size, 1, none⟩ = some (.int .i64 a) := cell_of_block (heap_alloc_new _ _) 1
  have e4 : (w.alloc (.cells #[.int .i64 op, .int .i64 a, .int .i64 b, .int .i64 c, .string s] 57 (0, 0))).cell? ⟨w.heap.size, 4, none⟩ = some (.string s) := cell_of_block (heap_alloc_new _ _) 4
  have hbel := (Below.refl w.heap.size w).alloc (Nat.le_refl _) (.cells #[.int .i64 op, .int .i64 a, .int .i64 b, .int .i64 c, .string s] 57 (0, 0))
  have hbx : w.heap.size < (w.alloc (.cells #[.int .i64 op, .int .i64 a, .int .i64 b, .int .i64 c, .string s] 57 (0, 0))).heap.size := by simp
  generalize w.alloc (.cells #[.int .i64 op, .int .i64 a, .int .i64 b, .int .i64 c, .string s] 57 (0, 0)) = wa at *
  go_region_held3 (fun w' => w'.cell? ⟨w.heap.size, 1, none⟩ = some (.int .i64 a) ∧ w'.cell? ⟨w.heap.size, 4, none⟩ = some (.string s) ∧ w.heap.size < w'.heap.size)
    (first | go_keep | (go_simp))
    (first
      | (go_at_call 116; refine (H1.out _).mono ?_; rintro e w1 ⟨rfl, hb1⟩; have g1 := (hb1.cell (p := ⟨w.heap.size, 1, none⟩) hbx).trans e1; have g4 := (hb1.cell (p := ⟨w.heap.size, 4, none⟩) hbx).trans e4; have gx := Nat.lt_of_lt_of_le hbx hb1.size))
  all_goals (
    go_wp2_with fail
    go_ret
    exact ⟨rfl, hbel.drew.trans (hb1.mono hbel.size)⟩)

end Go.Proofs.Ythmnbciefpkpmaa
