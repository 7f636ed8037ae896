/- The table of the package order, and its walk. -/
import Derived.Test.YthmnbciefpkpmaaOrd
import Derived.Test.YthmnbciefpkpmaaProg
import Derived.Deep.LoopGhost
import Derived.BigRegion
namespace Go.Proofs.Ythmnbciefpkpmaa
open Go.RowKit

/-- a block of 31 rows of 32 numbers -/
def TabAt (w : World) (b : Nat) (f : Nat → Nat → Nat) : Prop :=
  ∃ cs, w.heap[b]? = some (.cells cs 175 (0, 0)) ∧ cs.size = 992 ∧ ∀ i j, i < 31 → j < 32 → cs[i * 32 + j]? = some (.int .i64 (f i j))

theorem TabAt.cell {w : World} {b : Nat} {f : Nat → Nat → Nat} (h : TabAt w b f) (i j : Nat) (hi : i < 31) (hj : j < 32) : w.cell? ⟨b, i * 32 + j, none⟩ = some (.int .i64 (f i j)) := by
  obtain ⟨cs, hb, _, hc⟩ := h
  rw [cell_of_block hb]
  exact hc i j hi hj

theorem idx_ne {i j i' j' : Nat} (hj : j < 32) (hj' : j' < 32) (h : ¬ (i' = i ∧ j' = j)) : i * 32 + j ≠ i' * 32 + j' := by omega

theorem TabAt.store {w : World} {b : Nat} {f : Nat → Nat → Nat} (h : TabAt w b f) (i j v : Nat) (hj : j < 32) :
    TabAt (w.setCell ⟨b, i * 32 + j, none⟩ (.int .i64 v)) b (fun i' j' => if i' = i ∧ j' = j then v else f i' j') := by
  obtain ⟨cs, hb, hs, hc⟩ := h
  refine ⟨cs.setIfInBounds (i * 32 + j) (.int .i64 v), ?_, by simpa using hs, ?_⟩
  · simp [World.setCell, Array.getElem?_modify, hb]
  · intro i' j' hi' hj'
    rw [Array.getElem?_setIfInBounds]
    by_cases he : i' = i ∧ j' = j
    · obtain ⟨rfl, rfl⟩ := he
      rw [if_pos rfl, if_pos (by omega)]
      simp
    · rw [if_neg (idx_ne hj hj' he)]
      simp only [if_neg he]
      exact hc i' j' hi' hj'

theorem TabAt.frozen {w : World} {b : Nat} {f : Nat → Nat → Nat} (h : TabAt w b f) (i : Nat) : w.frozen? ⟨b, i, none⟩ = false := by
  obtain ⟨cs, hb, _⟩ := h
  simp [World.frozen?, hb]

theorem TabAt.congr {w : World} {b : Nat} {f g : Nat → Nat → Nat} (h : TabAt w b f) (hfg : ∀ i j, i < 31 → j < 32 → f i j = g i j) : TabAt w b g := by
  obtain ⟨cs, hb, hs, hc⟩ := h
  exact ⟨cs, hb, hs, fun i j hi hj => by rw [hc i j hi hj, hfg i j hi hj]⟩

/-- what the table holds when k rows are done, and o numbers of the next -/
def tv (k o i j : Nat) : Nat := if i + j ≤ 31 ∧ (i < k ∨ i = k ∧ j < o) then ways i j else if i = 0 ∧ j = 0 then 1 else 0

set_option maxRecDepth 100000 in
theorem tab_cells : Try.zeroCells175 = Array.replicate 992 (.int .i64 0) := by kernel_rfl

theorem tab_first (w : World) : TabAt (w.alloc (.cells (Try.zeroCells175.setIfInBounds 0 (.int .i64 1)) 175 (0, 0))) w.heap.size (tv 0 1) := by
  refine ⟨_, heap_alloc_new _ _, by rw [tab_cells]; simp, ?_⟩
  intro i j hi hj
  rw [tab_cells, Array.getElem?_setIfInBounds]
  by_cases h : 0 = i * 32 + j
  · obtain ⟨rfl, rfl⟩ : i = 0 ∧ j = 0 := by omega
    rw [if_pos h]
    simp [tv, ways_00]
  · rw [if_neg h, Array.getElem?_replicate, if_pos (by omega)]
    have h0 : tv 0 1 i j = 0 := by
      unfold tv
      rw [if_neg (by omega), if_neg (by omega)]
    rw [h0]; rfl

theorem tv_row (k : Nat) : ∀ i j, tv k (32 - k) i j = tv (k + 1) 1 i j := by
  intro i j
  unfold tv
  by_cases h1 : i + j ≤ 31 ∧ (i < k ∨ i = k ∧ j < 32 - k)
  · rw [if_pos h1, if_pos ⟨h1.1, Or.inl (by omega)⟩]
  · rw [if_neg h1]
    by_cases h2 : i + j ≤ 31 ∧ (i < k + 1 ∨ i = k + 1 ∧ j < 1)
    · rw [if_pos h2]
      obtain ⟨rfl, rfl⟩ : i = k + 1 ∧ j = 0 := by omega
      rw [if_neg (by omega), ways_k0]
    · rw [if_neg h2]

theorem tv_done (k o : Nat) (ho : 1 ≤ o) (hk : k + o ≤ 31) : ∀ i j, (if i = k ∧ j = o then ways k o else tv k o i j) = tv k (o + 1) i j := by
  intro i j
  by_cases h : i = k ∧ j = o
  · obtain ⟨rfl, rfl⟩ := h
    unfold tv
    rw [if_pos ⟨rfl, rfl⟩, if_pos ⟨hk, Or.inr ⟨rfl, by omega⟩⟩]
  · rw [if_neg h]
    unfold tv
    by_cases h1 : i + j ≤ 31 ∧ (i < k ∨ i = k ∧ j < o)
    · rw [if_pos h1, if_pos (by omega)]
    · rw [if_neg h1, if_neg (show ¬ (i + j ≤ 31 ∧ (i < k ∨ i = k ∧ j < o + 1)) by omega)]

theorem tv_prev (k o : Nat) (ho : 1 ≤ o) (hk : k + o ≤ 31) : tv k o k (o - 1) = ways k (o - 1) := by
  unfold tv; rw [if_pos (by omega)]
theorem tv_up (k o : Nat) (hk0 : 1 ≤ k) (hk : k + o ≤ 31) : tv k o (k - 1) (o + 1) = ways (k - 1) (o + 1) := by
  unfold tv; rw [if_pos (by omega)]
theorem ways_next (k o : Nat) (hk : 1 ≤ k) (ho : 1 ≤ o) : ways k o = ways k (o - 1) + ways (k - 1) (o + 1) := by
  obtain ⟨k, rfl⟩ : ∃ k', k = k' + 1 := ⟨k - 1, by omega⟩
  obtain ⟨o, rfl⟩ : ∃ o', o = o' + 1 := ⟨o - 1, by omega⟩
  rw [ways_ko]; rfl

set_option maxRecDepth 100000 in
theorem counted_c (w : World) :
    Calls Try.prog 95 #[] w fun e w' => ∃ b, e = .returned (.pointer (some ⟨b, 0, none⟩)) ∧ w.heap.size ≤ b ∧ TabAt w' b (tv 31 1) ∧ Below w.heap.size w w' := by
  go_enter Try.func95, Try.ntmps95
  go_wp2_with fail
  have hfirst := tab_first w
  have hbel0 := (Below.refl w.heap.size w).alloc (Nat.le_refl _) (.cells (Try.zeroCells175.setIfInBounds 0 (.int .i64 1)) 175 (0, 0))
  generalize w.alloc (.cells (Try.zeroCells175.setIfInBounds 0 (.int .i64 1)) 175 (0, 0)) = w0 at *
  go_loopw [10] (fun i wr => ∃ k : Nat, k ≤ 31 ∧ i = .int .i64 k ∧ TabAt wr w.heap.size (tv k 1) ∧ Below w.heap.size w wr) (fun i _ => 31 - (intOf i).toNat)
  case atStart => exact ⟨0, by omega, rfl, hfirst, hbel0⟩
  case round =>
    obtain ⟨k, hk, rfl, ht, hb⟩ := hrel
    clear hfirst hbel0
    by_cases hlt : (k : Int) < 31
    · go_wp2_with fail
      go_loopw [3] (fun o1 wr2 => ∃ o : Nat, o1 = .int .i64 o ∧ 1 ≤ o ∧ k + o ≤ 32 ∧ TabAt wr2 w.heap.size (tv k o) ∧ Below w.heap.size w wr2) (fun o1 _ => 32 - (intOf o1).toNat)
      case atStart => exact ⟨1, rfl, by omega, by omega, ht, hb⟩
      case round =>
        obtain ⟨o, rfl, ho1, hko, ht2, hb2⟩ := hrel
        clear ht hb
        by_cases hlo : (o : Int) ≤ 31 - k
        · have c1 := ht2.cell k (o - 1) (by omega) (by omega)
          have c2 := ht2.cell k o (by omega) (by omega)
          have f1 := ht2.frozen (k * 32 + o)
          rw [tv_prev k o ho1 (by omega)] at c1
          have hw1 := ways_lim (k := k) (o := o - 1) (by omega) (by omega)
          generalize tv k o k o = old at c2
          generalize hW1 : ways k (o - 1) = W1 at *
          have HW1 := Lib.hid hW1
          clear hW1
          have ho2 : o ≤ 31 := by omega
          have hk2 : k ≤ 30 := by omega
          go_wp2_with fail
          go_region
          all_goals (
            have ht3 := TabAt.store ht2 k o W1 (by omega)
            have hb3 := hb2.setCell (p := ⟨w.heap.size, k * 32 + o, none⟩) (Nat.le_refl _) (.int .i64 W1)
            generalize wr.setCell ⟨w.heap.size, k * 32 + o, none⟩ (.int .i64 W1) = wr3 at *
            clear ht2 hb2 c1 c2 f1
            by_cases hk0 : (k : Int) > 0
            · have d1 := ht3.cell k o (by omega) (by omega)
              have d2 := ht3.cell (k - 1) (o + 1) (by omega) (by omega)
              have f3 := ht3.frozen (k * 32 + o)
              rw [if_pos ⟨rfl, rfl⟩] at d1
              rw [if_neg (by omega), tv_up k o (by omega) (by omega)] at d2
              have hw2 := ways_lim (k := k - 1) (o := o + 1) (by omega) (by omega)
              have hnx := ways_next k o (by omega) ho1
              generalize hW2 : ways (k - 1) (o + 1) = W2 at *
              rw [HW1.out] at hnx
              have Hnx := Lib.hid hnx
              clear hnx hW2
              go_wp2_with fail
              go_region
              all_goals (
                go_wp2_with fail
                go_roundw
                case rel =>
                  refine ⟨o + 1, by go_num, by omega, by omega, ?_, ?_⟩
                  · have ht4 := TabAt.store ht3 k o (W1 + W2) (by omega)
                    refine TabAt.congr ht4 ?_
                    intro i j _ _
                    rw [← tv_done k o ho1 (by omega), Hnx.out]
                    by_cases he : i = k ∧ j = o
                    · rw [if_pos he, if_pos he]
                    · rw [if_neg he, if_neg he, if_neg he]
                  · exact (hb3.setCell (p := ⟨w.heap.size, k * 32 + o, none⟩) (Nat.le_refl _) _).drew.drew
                case measure => simp [intOf]; omega)
            · obtain rfl : k = 0 := by omega
              have hW : W1 = ways 0 o := by
                rw [← HW1.out, ways_zero, ways_zero]
              have HW := Lib.hid hW
              clear hW hk0
              go_wp2_with fail
              go_roundw
              case rel =>
                refine ⟨o + 1, by go_num, by omega, by omega, ?_, ?_⟩
                · refine TabAt.congr ht3 ?_
                  intro i j _ _
                  rw [← tv_done 0 o ho1 (by omega), HW.out]
                · exact hb3.drew
              case measure => simp [intOf]; omega)
        · have hlo2 : (31 : Int) - k < (o : Int) := by omega
          clear hlo
          obtain rfl : o = 32 - k := by omega
          have ht3 := TabAt.congr ht2 (fun i j _ _ => tv_row k i j)
          clear ht2
          generalize hoo : 32 - k = oo at *
          have Hoo := Lib.hid hoo
          clear hoo
          go_wp2_with fail
          go_roundw
          case rel => exact ⟨k + 1, by omega, by go_num, ht3, hb2⟩
          case measure => simp [intOf]; omega
    · obtain rfl : k = 31 := by omega
      clear hlt hk
      go_wp2_with fail
      go_ret
      exact ⟨_, rfl, Nat.le_refl _, ht, hb⟩

end Go.Proofs.Ythmnbciefpkpmaa
