/- The walk of ways of the tenth reference: a table of slices. -/
import Derived.Test.YthmnbciefpkpmaaListing
import Derived.BigRegion
namespace Go.Proofs.Ythmnbciefpkpmaa
open Go.RowKit

/-- a row of 31 numbers in a block of its own -/
def RowI (w : World) (g : Nat) (f : Nat → Nat) : Prop := ∃ cs, w.heap[g]? = some (.cells cs 3 (0, 0)) ∧ cs.size = 31 ∧ ∀ k, k < 31 → cs[k]? = some (.int .i64 (f k))

theorem RowI.keep {w w' : World} {g : Nat} {f : Nat → Nat} (h : RowI w g f) (hk : w'.heap[g]? = w.heap[g]?) : RowI w' g f := by
  obtain ⟨cs, h1, h2⟩ := h
  exact ⟨cs, by rw [hk]; exact h1, h2⟩

theorem RowI.cell {w : World} {g : Nat} {f : Nat → Nat} (h : RowI w g f) (k : Nat) (hk : k < 31) : w.cell? ⟨g, k, none⟩ = some (.int .i64 (f k)) := by
  obtain ⟨cs, hb, _, hc⟩ := h
  rw [cell_of_block hb]
  exact hc k hk

theorem RowI.frozen {w : World} {g : Nat} {f : Nat → Nat} (h : RowI w g f) (i : Nat) : w.frozen? ⟨g, i, none⟩ = false := by
  obtain ⟨cs, hb, _⟩ := h
  simp [World.frozen?, hb]

theorem RowI.store {w : World} {g : Nat} {f : Nat → Nat} (h : RowI w g f) (k v : Nat) : RowI (w.setCell ⟨g, k, none⟩ (.int .i64 v)) g (fun j => if j = k then v else f j) := by
  obtain ⟨cs, hb, hs, hc⟩ := h
  refine ⟨cs.setIfInBounds k (.int .i64 v), ?_, by simpa using hs, ?_⟩
  · simp [World.setCell, Array.getElem?_modify, hb]
  · intro j hj
    show _ = some (Value.int .i64 ((if j = k then v else f j : Nat) : Int))
    rw [Array.getElem?_setIfInBounds]
    by_cases he : k = j
    · subst he
      rw [if_pos rfl, if_pos (by omega), if_pos rfl]
    · rw [if_neg he, if_neg (fun e => he e.symm)]
      exact hc j hj

/-- the outer row: the first m rows are made -/
structure OutR (w : World) (B g m : Nat) (gs : Nat → Nat) (f : Nat → Nat → Nat) : Prop where
  base : B ≤ g
  outer : ∃ cs, w.heap[g]? = some (.cells cs 111 (0, 0)) ∧ cs.size = 32 ∧ (∀ n, n < m → cs[n]? = some (.slice (some ⟨gs n, 0, none⟩) 31 31)) ∧ (∀ n, m ≤ n → n < 32 → cs[n]? = some (.slice none 0 0))
  rows : ∀ n, n < m → B ≤ gs n ∧ RowI w (gs n) (f n)
  inj : ∀ n n', n < m → n' < m → gs n = gs n' → n = n'

theorem OutR.cell {w : World} {B g m : Nat} {gs : Nat → Nat} {f : Nat → Nat → Nat} (h : OutR w B g m gs f) (n : Nat) (hn : n < m) : w.cell? ⟨g, n, none⟩ = some (.slice (some ⟨gs n, 0, none⟩) 31 31) := by
  obtain ⟨cs, hb, _, hc, _⟩ := h.outer
  rw [cell_of_block hb]
  exact hc n hn

theorem OutR.below {w w' : World} {B B' g m : Nat} {gs : Nat → Nat} {f : Nat → Nat → Nat} (h : OutR w B g m gs f) (hb : Below B' w w') (hB : w.heap.size ≤ B') : OutR w' B g m gs f := by
  obtain ⟨cs, h1, h2, h3, h4⟩ := h.outer
  refine ⟨h.base, ⟨cs, ?_, h2, h3, h4⟩, fun n hn => ?_, h.inj⟩
  · rw [hb.block g (Nat.lt_of_lt_of_le (lt_of_block h1) hB)]; exact h1
  · obtain ⟨r1, cs2, r2, r3⟩ := h.rows n hn
    exact ⟨r1, cs2, by rw [hb.block _ (Nat.lt_of_lt_of_le (lt_of_block r2) hB)]; exact r2, r3⟩

/-- a number is written into a row -/
theorem OutR.store {w : World} {B g m : Nat} {gs : Nat → Nat} {f : Nat → Nat → Nat} (h : OutR w B g m gs f) (n k v : Nat) (hn : n < m) : OutR (w.setCell ⟨gs n, k, none⟩ (.int .i64 v)) B g m gs (fun i j => if i = n ∧ j = k then v else f i j) := by
  obtain ⟨cs, h1, h2, h3, h4⟩ := h.outer
  obtain ⟨r1, hrow⟩ := h.rows n hn
  have hne : g ≠ gs n := by
    intro e
    obtain ⟨cs2, r2, _⟩ := hrow
    rw [← e, h1] at r2
    simp at r2
  have hst := hrow.store k v
  refine ⟨h.base, ⟨cs, ?_, h2, h3, h4⟩, fun i hi => ?_, h.inj⟩
  · rw [Below.heap_setCell _ _ _ _ hne]; exact h1
  · by_cases he : i = n
    · subst he
      refine ⟨r1, ?_⟩
      simpa using hst
    · obtain ⟨q1, q2⟩ := h.rows i hi
      refine ⟨q1, ?_⟩
      have hng : gs i ≠ gs n := fun e => he (h.inj i n hi hn e)
      have := q2.keep (w' := w.setCell ⟨gs n, k, none⟩ (.int .i64 v)) (Below.heap_setCell _ _ _ _ hng)
      have e2 : (fun j => if i = n ∧ j = k then v else f i j) = f i := by funext j; simp [he]
      rw [e2]
      exact this

theorem OutR.congr {w : World} {B g m : Nat} {gs : Nat → Nat} {f f' : Nat → Nat → Nat} (h : OutR w B g m gs f) (hf : ∀ i j, i < m → j < 31 → f i j = f' i j) : OutR w B g m gs f' := by
  refine ⟨h.base, h.outer, fun n hn => ?_, h.inj⟩
  obtain ⟨r1, cs, r2, r3, r4⟩ := h.rows n hn
  exact ⟨r1, cs, r2, r3, fun k hk => by rw [r4 k hk, hf n k hn hk]⟩

theorem OutR.size {w : World} {B g m : Nat} {gs : Nat → Nat} {f : Nat → Nat → Nat} (h : OutR w B g m gs f) : g < w.heap.size ∧ ∀ n, n < m → gs n < w.heap.size := by
  obtain ⟨cs, h1, _⟩ := h.outer
  refine ⟨lt_of_block h1, fun n hn => ?_⟩
  obtain ⟨_, cs2, r2, _⟩ := h.rows n hn
  exact lt_of_block r2

/-- a new row in its place -/
theorem OutR.add {w w1 : World} {B g m : Nat} {gs : Nat → Nat} {f : Nat → Nat → Nat} (h : OutR w B g m gs f) (hb : Below w.heap.size w w1) (G : Nat) (hG : w.heap.size ≤ G) (hBw : B ≤ w.heap.size) (fr : Nat → Nat) (hr : RowI w1 G fr) (hm : m < 32) :
    OutR (w1.setCell ⟨g, m, none⟩ (.slice (some ⟨G, 0, none⟩) 31 31)) B g (m + 1) (fun n => if n = m then G else gs n) (fun n => if n = m then fr else f n) := by
  have h1 := h.below hb (Nat.le_refl _)
  obtain ⟨cs, c1, c2, c3, c4⟩ := h1.outer
  have hsz := h.size
  have hgG : G ≠ g := by omega
  refine ⟨h.base, ⟨cs.setIfInBounds m (.slice (some ⟨G, 0, none⟩) 31 31), ?_, by simpa using c2, ?_, ?_⟩, ?_, ?_⟩
  · simp [World.setCell, Array.getElem?_modify, c1]
  · intro n hn
    show _ = some (Value.slice (some ⟨if n = m then G else gs n, 0, none⟩) 31 31)
    rw [Array.getElem?_setIfInBounds]
    by_cases he : m = n
    · subst he
      rw [if_pos rfl, if_pos (by omega), if_pos rfl]
    · rw [if_neg he, if_neg (fun e => he e.symm)]
      exact c3 n (by omega)
  · intro n hn hn2
    rw [Array.getElem?_setIfInBounds, if_neg (by omega)]
    exact c4 n (by omega) hn2
  · intro n hn
    by_cases he : n = m
    · subst he
      simp only [if_pos]
      exact ⟨Nat.le_trans hBw hG, hr.keep (Below.heap_setCell _ _ _ _ hgG)⟩
    · simp only [if_neg he]
      obtain ⟨q1, q2⟩ := h1.rows n (by omega)
      refine ⟨q1, q2.keep (Below.heap_setCell _ _ _ _ ?_)⟩
      intro e
      obtain ⟨cs2, r2, _⟩ := q2
      have e' : gs n = g := e
      rw [e', c1] at r2
      simp at r2
  · intro n n' hn hn' e
    by_cases h1 : n = m
    · by_cases h2 : n' = m
      · omega
      · simp only [if_pos h1, if_neg h2] at e
        have := hsz.2 n' (by omega)
        omega
    · by_cases h2 : n' = m
      · simp only [if_neg h1, if_pos h2] at e
        have := hsz.2 n (by omega)
        omega
      · simp only [if_neg h1, if_neg h2] at e
        exact h.inj n n' (by omega) (by omega) e

/-- what the table holds when the columns before k are done, and of column k the rows before n -/
def wv (k n i j : Nat) : Nat := if i + j ≤ 31 ∧ (j < k ∨ j = k ∧ i < n) then ways j i else if j = 0 then 1 else 0

theorem wv_row (k : Nat) : ∀ i j, wv k (32 - k) i j = wv (k + 1) 1 i j := by
  intro i j
  unfold wv
  by_cases h1 : i + j ≤ 31 ∧ (j < k ∨ j = k ∧ i < 32 - k)
  · rw [if_pos h1, if_pos ⟨h1.1, Or.inl (by omega)⟩]
  · rw [if_neg h1]
    by_cases h2 : i + j ≤ 31 ∧ (j < k + 1 ∨ j = k + 1 ∧ i < 1)
    · rw [if_pos h2]
      obtain ⟨rfl, rfl⟩ : j = k + 1 ∧ i = 0 := by omega
      rw [if_neg (by omega), ways_k0]
    · rw [if_neg h2]

theorem wv_done (k n : Nat) (hn : 1 ≤ n) (hk : n + k ≤ 31) : ∀ i j, (if i = n ∧ j = k then ways k n else wv k n i j) = wv k (n + 1) i j := by
  intro i j
  by_cases h : i = n ∧ j = k
  · obtain ⟨rfl, rfl⟩ := h
    unfold wv
    rw [if_pos ⟨rfl, rfl⟩, if_pos ⟨hk, Or.inr ⟨rfl, by omega⟩⟩]
  · rw [if_neg h]
    unfold wv
    by_cases h1 : i + j ≤ 31 ∧ (j < k ∨ j = k ∧ i < n)
    · rw [if_pos h1, if_pos (by omega)]
    · rw [if_neg h1, if_neg (show ¬ (i + j ≤ 31 ∧ (j < k ∨ j = k ∧ i < n + 1)) by omega)]

theorem wv_first (i j : Nat) (hi : i < 32) : (if j = 0 then 1 else 0) = wv 1 1 i j := by
  unfold wv
  by_cases h : i + j ≤ 31 ∧ (j < 1 ∨ j = 1 ∧ i < 1)
  · rw [if_pos h]
    rcases h.2 with h2 | ⟨h2, h3⟩
    · obtain rfl : j = 0 := by omega
      rw [if_pos rfl, ways_zero]
    · obtain rfl : j = 1 := h2
      obtain rfl : i = 0 := by omega
      rw [if_neg (by decide), ways_k0]
  · rw [if_neg h]

theorem wv_prev (k n : Nat) (hn : 1 ≤ n) (hk : n + k ≤ 31) : wv k n (n - 1) k = ways k (n - 1) := by
  unfold wv; rw [if_pos (by omega)]
theorem wv_up (k n : Nat) (hk0 : 1 ≤ k) (hk : n + k ≤ 31) : wv k n (n + 1) (k - 1) = ways (k - 1) (n + 1) := by
  unfold wv; rw [if_pos (by omega)]
theorem wv_full {i j : Nat} (h : i + j ≤ 31) (hj : j ≤ 30) : wv 31 1 i j = ways j i := by
  unfold wv; rw [if_pos ⟨h, Or.inl (by omega)⟩]

theorem intInfo : (Try.prog.info? 3).map (fun i => (i.zero, i.size, i.bytes)) = some (some (.int .i64 0), 1, 8) := by kernel_rfl
theorem intsInfo : (Try.prog.info? 111).map (fun i => (i.zero, i.size, i.bytes)) = some (some (.slice none 0 0), 1, 24) := by kernel_rfl

def WaysPost (w : World) (e : Ending) (w' : World) : Prop := (∃ g gs, e = .returned (.slice (some ⟨g, 0, none⟩) 32 32) ∧ OutR w' w.heap.size g 32 gs (wv 31 1)) ∧ Below w.heap.size w w'

theorem made_ints : (madeCells (Value.int .i64 0).cells (31 * 1)).toList = List.replicate 31 (.int .i64 0) := by kernel_rfl
theorem made_rows : (madeCells (Value.slice none 0 0).cells (32 * 1)).toList = List.replicate 32 (.slice none 0 0) := by kernel_rfl

/-- the block behind a row that has just been made -/
theorem own_block {w : World} {B e n G : Nat} {xs : List Value} (h : w.ownsRow B e 1 (.slice (some ⟨G, 0, none⟩) n n) n xs) : w.heap[G]? = some (.cells xs.toArray e (0, 0)) := by
  obtain ⟨hxl, hx⟩ := h
  rcases hx with ⟨hx, _⟩ | ⟨g, cap2, cur, hx, _, hg, _, _, hcs, htk⟩
  · simp at hx
  · simp only [Value.slice.injEq, Option.some.injEq, Addr.mk.injEq] at hx
    obtain ⟨⟨rfl, _, _⟩, _, rfl⟩ := hx
    rw [List.take_of_length_le (by rw [Array.length_toList]; omega)] at htk
    rw [hg, ← htk]

theorem outR_made {w : World} {B G : Nat} (hB : B ≤ G) (h : w.ownsRow B 111 1 (.slice (some ⟨G, 0, none⟩) 32 32) 32 (madeCells (Value.slice none 0 0).cells (32 * 1)).toList) : OutR w B G 0 (fun _ => 0) (fun _ _ => 0) := by
  have hb := own_block h
  rw [made_rows] at hb
  refine ⟨hB, ⟨_, hb, by simp, fun n hn => by omega, fun n _ hn => ?_⟩, fun n hn => by omega, fun n _ hn => by omega⟩
  rw [List.getElem?_toArray, List.getElem?_replicate, if_pos hn]

theorem rowI_made {w : World} {B G : Nat} (h : w.ownsRow B 3 1 (.slice (some ⟨G, 0, none⟩) 31 31) 31 (madeCells (Value.int .i64 0).cells (31 * 1)).toList) : RowI w G (fun _ => 0) := by
  have hb := own_block h
  rw [made_ints] at hb
  refine ⟨_, hb, by simp, fun n hn => ?_⟩
  rw [List.getElem?_toArray, List.getElem?_replicate, if_pos hn]; rfl

set_option maxRecDepth 100000 in
set_option maxHeartbeats 2000000 in
theorem ways_c (w : World) : Calls Try.prog 92 #[] w (WaysPost w) := by
  obtain ⟨i0, hi, hz0, hz1, hz2⟩ := info_parts intInfo
  obtain ⟨i1, hj, hy0, hy1, hy2⟩ := info_parts intsInfo
  go_enter Try.func92, Try.ntmps92
  go_wp2_with (at_make; refine wpList_make_full _ rfl _ _ 109 rfl w.heap.size 111 i1 _ 1 Try.underlying109 hj hy0 hy1 .i64 .i64 _ _ 32 rfl rfl (by omega) (by omega) (by rw [hy2]; omega) (by unfold maxLen; omega) (Nat.le_refl _) ?_)
  intro w1 hown hgrow
  have hbel1 := (Below.refl w.heap.size w).grown hgrow (Nat.le_refl _) (by simp)
  have hout := outR_made (Nat.le_refl _) hown
  have hB1 := hbel1.size
  generalize hBe : w.heap.size = B at *
  have HB := Lib.hid hBe
  clear hown hgrow hBe
  go_wp2_with fail
  go_loopw [2] (fun i wr => ∃ (n : Nat) (gs : Nat → Nat) (f : Nat → Nat → Nat), n ≤ 32 ∧ i = .int .i64 n ∧ OutR wr B B n gs f ∧ (∀ i j, i < n → j < 31 → f i j = if j = 0 then 1 else 0) ∧ Below B w wr ∧ B ≤ wr.heap.size) (fun i _ => 32 - (intOf i).toNat)
  case atStart => exact ⟨0, _, _, by omega, rfl, hout, fun i j h => by omega, hbel1, hB1⟩
  case round =>
    obtain ⟨n, gs, f, hn, rfl, hout, hf, hbel, hBw⟩ := hrel
    clear hbel1 hB1
    by_cases hlt : (n : Int) < 32
    · have hnn : n < 32 := by omega
      go_wp2_with (at_make; refine wpList_make_full _ rfl _ _ 111 rfl wr.heap.size 3 i0 _ 1 Try.underlying111 hi hz0 hz1 .i64 .i64 _ _ 31 rfl rfl (by omega) (by omega) (by rw [hz2]; omega) (by unfold maxLen; omega) (Nat.le_refl _) ?_)
      intro w2 hown2 hgrow2
      have hbel2 := (Below.refl wr.heap.size wr).grown hgrow2 (Nat.le_refl _) (by simp)
      have hrow := rowI_made hown2
      have hadd := hout.add hbel2 wr.heap.size (Nat.le_refl _) hBw _ hrow hnn
      have hst := hadd.store n 0 1 (by omega)
      simp only [if_true] at hst
      obtain ⟨cs, o1, o2, o3, o4⟩ := (hout.below hbel2 (Nat.le_refl _)).outer
      have c1 : w2.cell? ⟨B, n, none⟩ = some (.slice none 0 0) := by rw [cell_of_block o1]; exact o4 n (Nat.le_refl _) hnn
      have f1 : w2.frozen? ⟨B, n, none⟩ = false := by simp [World.frozen?, o1]
      have c2 := hadd.cell n (by omega)
      simp only [if_true] at c2
      have hrw := (hadd.rows n (by omega)).2
      simp only [if_true] at hrw
      have c3 := hrw.cell 0 (by omega)
      have f3 := hrw.frozen 0
      have hbel3 := ((hbel.trans (hbel2.mono hBw)).setCell (p := ⟨B, n, none⟩) (Nat.le_refl _) (.slice (some ⟨wr.heap.size, 0, none⟩) 31 31)).setCell (p := ⟨wr.heap.size, 0, none⟩) hBw (.int .i64 1)
      have hf3 : ∀ i j, i < n + 1 → j < 31 → (if i = n ∧ j = 0 then 1 else (if i = n then (fun _ => 0) else f i) j) = if j = 0 then 1 else 0 := by
        intro i j hi hj
        by_cases h1 : i = n
        · subst h1
          by_cases h2 : j = 0
          · rw [if_pos ⟨rfl, h2⟩, if_pos h2]
          · rw [if_neg (fun h => h2 h.2), if_neg h2, if_pos rfl]
        · rw [if_neg (fun h => h1 h.1), if_neg h1]
          exact hf i j (by omega) hj
      have hi1 : (n : Int) < 32 := hlt
      have HH := Lib.hid (And.intro hst (And.intro hbel3 hf3))
      clear hst hbel3 hf3 hadd hrw hrow hown2 hgrow2 hbel2 hbel hout o1 o2 o3 o4 hf
      go_wp2_with fail
      go_roundw
      case rel => exact ⟨n + 1, _, _, by omega, by go_num, HH.out.1, HH.out.2.2, HH.out.2.1, by have := HH.out.2.1.size; have h2 := HB.out; omega⟩
      case measure => simp [intOf] <;> omega
    · obtain rfl : n = 32 := by omega
      have hout2 := hout.congr (f' := wv 1 1) (fun i j hi hj => by rw [hf i j hi hj]; exact wv_first i j hi)
      clear hout hf
      go_wp2_with fail
      go_loopw [3] (fun i wr2 => ∃ k : Nat, 1 ≤ k ∧ k ≤ 31 ∧ i = .int .i64 k ∧ OutR wr2 B B 32 gs (wv k 1) ∧ Below B w wr2 ∧ B ≤ wr2.heap.size) (fun i _ => 31 - (intOf i).toNat)
      case atStart => exact ⟨1, by omega, by omega, rfl, hout2, hbel, hBw⟩
      case round =>
        obtain ⟨k, hk1, hk2, rfl, ht, hb, hBw2⟩ := hrel
        clear hout2 hbel hBw
        by_cases hlt2 : (k : Int) ≤ 30
        · go_wp2_with fail
          go_loopw [4] (fun o1 wr3 => ∃ n : Nat, o1 = .int .i64 n ∧ 1 ≤ n ∧ n + k ≤ 32 ∧ OutR wr3 B B 32 gs (wv k n) ∧ Below B w wr3 ∧ B ≤ wr3.heap.size) (fun o1 _ => 32 - (intOf o1).toNat)
          case atStart => exact ⟨1, rfl, by omega, by omega, ht, hb, hBw2⟩
          case round =>
            obtain ⟨n, rfl, hn1, hnk, ht2, hb2, hBw3⟩ := hrel
            clear ht hb hBw2
            by_cases hlo : (n : Int) + k ≤ 31
            · have c1 := ht2.cell n (by omega)
              have c2 := ht2.cell (n - 1) (by omega)
              have c3 := ht2.cell (n + 1) (by omega)
              have r1 := (ht2.rows n (by omega)).2.cell k (by omega)
              have r2 := (ht2.rows (n - 1) (by omega)).2.cell k (by omega)
              have r3 := (ht2.rows (n + 1) (by omega)).2.cell (k - 1) (by omega)
              have f1 := (ht2.rows n (by omega)).2.frozen k
              rw [wv_prev k n hn1 (by omega)] at r2
              rw [wv_up k n hk1 (by omega)] at r3
              have hw1 := ways_lim (k := k) (o := n - 1) (by omega) (by omega)
              have hw2 := ways_lim (k := k - 1) (o := n + 1) (by omega) (by omega)
              have hnx := ways_next k n hk1 hn1
              generalize ways k (n - 1) = W1 at *
              generalize ways (k - 1) (n + 1) = W2 at *
              generalize wv k n n k = old at r1
              have hst := ht2.store n k (W1 + W2) (by omega)
              have hst2 := hst.congr (f' := wv k (n + 1)) (fun i j _ _ => by rw [← wv_done k n hn1 (by omega), hnx])
              have hbel3 := hb2.setCell (p := ⟨gs n, k, none⟩) ((ht2.rows n (by omega)).1) (.int .i64 ((W1 + W2 : Nat) : Int))
              have e1 : ((n - 1 : Nat) : Int) = (n : Int) - 1 := by omega
              have HH := Lib.hid (And.intro hst2 hbel3)
              clear hst hst2 hbel3 hnx ht2 hb2 e1
              generalize gs n = G1 at *
              generalize gs (n - 1) = G2 at *
              generalize gs (n + 1) = G3 at *
              obtain ⟨n, rfl⟩ : ∃ n', n = n' + 1 := ⟨n - 1, by omega⟩
              obtain ⟨k, rfl⟩ : ∃ k', k = k' + 1 := ⟨k - 1, by omega⟩
              simp only [Nat.add_sub_cancel] at c2 r3
              have j1 : (0 : Int) ≤ (n : Int) := by omega
              have j2 : (n : Int) ≤ 30 := by omega
              have j3 : (0 : Int) ≤ (k : Int) := by omega
              have j4 : (k : Int) ≤ 29 := by omega
              go_wp2_with fail
              go_region
              all_goals (
                go_wp2_with fail
                go_roundw
                case rel => exact ⟨n + 1 + 1, by go_num, by omega, by omega, OutR.below HH.out.1 ((Below.refl _ _).drew) (Nat.le_refl _), HH.out.2.drew, Nat.le_trans (Nat.le_of_eq HB.out.symm) HH.out.2.drew.size⟩
                case measure => simp [intOf] <;> omega)
            · have hlo2 : (31 : Int) < (n : Int) + k := by omega
              clear hlo
              obtain rfl : n = 32 - k := by omega
              have ht3 := ht2.congr (fun i j _ _ => wv_row k i j)
              clear ht2
              generalize hoo : 32 - k = oo at *
              have Hoo := Lib.hid hoo
              clear hoo
              go_wp2_with fail
              go_roundw
              case rel => exact ⟨k + 1, by omega, by omega, by go_num, ht3, hb2, hBw3⟩
              case measure => simp [intOf] <;> omega
        · obtain rfl : k = 31 := by omega
          clear hlt2 hk1 hk2
          go_wp2_with fail
          go_ret
          exact ⟨⟨_, gs, rfl, by rw [HB.out]; exact ht⟩, by rw [HB.out]; exact hb⟩

end Go.Proofs.Ythmnbciefpkpmaa
