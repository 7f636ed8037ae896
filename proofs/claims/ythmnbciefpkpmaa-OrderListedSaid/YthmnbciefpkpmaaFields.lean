/- The walk of fields of the package code. -/
import Derived.Test.YthmnbciefpkpmaaGets
import Derived.Laws.EntriesVeiled
namespace Go.Proofs.Ythmnbciefpkpmaa
open Go.RowKit

/-- the two functions of an operation -/
def fieldsV (n : Nat) : Value :=
  if n = 0 then .agg #[.func (.func 150) #[] #[], .func (.func 151) #[] #[]]
  else if n = 2 then .agg #[.func (.func 152) #[] #[], .func (.func 153) #[] #[]]
  else if n = 5 then .agg #[.func (.func 154) #[] #[], .func (.func 155) #[] #[]]
  else .agg #[.func (.func 190) #[] #[], .func (.func 191) #[] #[]]

set_option maxRecDepth 100000 in
theorem cregs_c (w : World) : Calls Try.prog 156 #[] w fun e w' => e = .returned (.agg #[.func (.func 190) #[] #[], .func (.func 191) #[] #[]]) ∧ Below w.heap.size w w' := by
  go_enter Try.func156, Try.ntmps156
  go_wp2_with fail
  refine bodyPost_ret (v := .agg #[.func (.func 190) #[] #[], .func (.func 191) #[] #[]]) (by simp [results, Try.results156, go_sem]) rfl ⟨rfl, ?_⟩
  exact (Below.refl _ _).alloc (Nat.le_refl _) _

set_option maxRecDepth 100000 in
theorem fields_c (n : Nat) (w : World) : Calls Try.prog 117 #[.int .i64 n] w fun e w' => e = .returned (fieldsV n) ∧ Below w.heap.size w w' := by
  unfold fieldsV
  by_cases h0 : n = 0
  · subst h0
    rw [if_pos rfl]
    go_enter Try.func117, Try.ntmps117
    go_wp2_with fail
    refine bodyPost_ret (v := .agg #[.func (.func 150) #[] #[], .func (.func 151) #[] #[]]) (by simp [results, Try.results117, go_sem]) rfl ⟨rfl, ?_⟩
    exact (Below.refl _ _).alloc (Nat.le_refl _) _
  · rw [if_neg h0]
    by_cases h2 : n = 2
    · subst h2
      rw [if_pos rfl]
      go_enter Try.func117, Try.ntmps117
      go_wp2_with fail
      refine bodyPost_ret (v := .agg #[.func (.func 152) #[] #[], .func (.func 153) #[] #[]]) (by simp [results, Try.results117, go_sem]) rfl ⟨rfl, ?_⟩
      exact (Below.refl _ _).alloc (Nat.le_refl _) _
    · rw [if_neg h2]
      by_cases h5 : n = 5
      · subst h5
        rw [if_pos rfl]
        go_enter Try.func117, Try.ntmps117
        go_wp2_with fail
        refine bodyPost_ret (v := .agg #[.func (.func 154) #[] #[], .func (.func 155) #[] #[]]) (by simp [results, Try.results117, go_sem]) rfl ⟨rfl, ?_⟩
        exact (Below.refl _ _).alloc (Nat.le_refl _) _
      · rw [if_neg h5]
        have b0 : ((n : Int) == 0) = false := by simp; omega
        have b2 : ((n : Int) == 2) = false := by simp; omega
        have b5 : ((n : Int) == 5) = false := by simp; omega
        clear h0 h2 h5
        go_enter Try.func117, Try.ntmps117
        go_wp2_with fail
        refine (cregs_c _).mono ?_
        rintro e w2 ⟨rfl, hb⟩
        have c0 : w2.heap[w.heap.size]? = some (.cells #[.nilFunc, .nilFunc] 145 (0, 0)) := (hb.block w.heap.size (by simp)).trans (heap_alloc_new _ _)
        have d0 : w2.cell? ⟨w.heap.size, 0, none⟩ = some .nilFunc := cell_of_block c0 0
        have d1 : w2.cell? ⟨w.heap.size, 1, none⟩ = some .nilFunc := cell_of_block c0 1
        have f0 : w2.frozen? ⟨w.heap.size, 0, none⟩ = false := by simp [World.frozen?, c0]
        have f1 : w2.frozen? ⟨w.heap.size, 1, none⟩ = false := by simp [World.frozen?, c0]
        have hbel := ((((Below.refl w.heap.size w).alloc (Nat.le_refl _) (.cells #[.nilFunc, .nilFunc] 145 (0, 0))).trans (hb.mono (by simp))).setCell (p := ⟨w.heap.size, 0, none⟩) (Nat.le_refl _) (.func (.func 190) #[] #[])).setCell (p := ⟨w.heap.size, 1, none⟩) (Nat.le_refl _) (.func (.func 191) #[] #[])
        have c3 : ((w2.setCell ⟨w.heap.size, 0, none⟩ (.func (.func 190) #[] #[])).setCell ⟨w.heap.size, 1, none⟩ (.func (.func 191) #[] #[])).heap[w.heap.size]? = some (.cells #[.func (.func 190) #[] #[], .func (.func 191) #[] #[]] 145 (0, 0)) := by
          simp [World.setCell, Array.getElem?_modify, c0]
        have e0 := cell_of_block c3 0
        have e1 := cell_of_block c3 1
        have Hbel := Lib.hid hbel
        have E := Lib.hid (And.intro e0 e1)
        clear c3 e0 e1 hbel hb c0
        go_wp2_with fail
        refine bodyPost_ret (v := .agg #[.func (.func 190) #[] #[], .func (.func 191) #[] #[]]) (by have e0 := E.out.1; have e1 := E.out.2; simp [results, Try.results117, go_sem, e0, e1]) rfl ⟨rfl, Hbel.out⟩

end Go.Proofs.Ythmnbciefpkpmaa
