/- The walk of order.Pad. -/
import Derived.Test.YthmnbciefpkpmaaCopy
import Derived.Test.YthmnbciefpkpmaaCodeValid
namespace Go.Proofs.Ythmnbciefpkpmaa
open Go.RowKit

/-- a program followed by so many moves -/
def padP (l : List Ins) (n : Nat) : List Ins := l ++ List.replicate n moveIns

theorem pad_set (l : List Ins) (k n m : Nat) (hm : l.length = m) (hk : k < n) :
    (padP l k ++ List.replicate (n - k) zeroIns).set (m + k) moveIns = padP l (k + 1) ++ List.replicate (n - (k + 1)) zeroIns := by
  have h1 : (padP l k).length = m + k := by simp [padP, hm]
  have h2 : n - k = (n - (k + 1)) + 1 := by omega
  rw [h2, List.replicate_succ, ← h1, List.set_append_right _ _ (Nat.le_refl _), Nat.sub_self, List.set_cons_zero]
  simp [padP, List.replicate_succ', List.append_assoc]

set_option maxRecDepth 100000 in
set_option maxHeartbeats 1000000 in
theorem pad_yes (ao : Option Addr) (b o cap : Nat) (l : List Ins) (n : Nat) (w : World) (hp : ProgIn w ao b o l) (hnil : ao = none → cap = 0) (hv : validP l = true) (hn : n ≤ 1000) (hl : l.length + n ≤ 4000) :
    Calls Try.prog 47 #[.slice ao l.length cap, .int .i64 n] w fun e w' => (∃ g, e = .returned (.tuple #[.slice (some ⟨g, 0, none⟩) (l.length + n : Nat) (l.length + n : Nat), .int .i64 0]) ∧ BlkProg w' w.heap.size g (padP l n)) ∧ Below w.heap.size w w' := by
  obtain ⟨i0, hi, hz0, hz1, hz2⟩ := info_parts Try.info57
  have hc := cvalid_c ao b o cap l w hp (by omega)
  rw [show goodP 4000 2000000 l = true from hv] at hc
  have Hc := Lib.hid hc
  clear hc hv
  go_enter Try.func47, Try.ntmps47
  have hsz : (Try.prog.info? 57).map (·.size) = some 5 := by rw [hi]; simp [hz1]
  have Hlt := Lib.hid (And.intro (flat_len l) (cells_one l))
  generalize hm : l.length = m at *
  have Hm := Lib.hid hm
  clear hm
  go_wp2_with (first | (go_at_call 104; refine Hc.out.mono ?_; rintro e w1 ⟨rfl, hb1⟩) | (at_make; refine wpList_make_full _ rfl _ _ 43 rfl w1.heap.size 57 i0 _ 5 Try.underlying43 hi hz0 hz1 .i64 .i64 _ _ (m + n) rfl rfl (by omega) (by omega) (by rw [hz2]; omega) (by unfold maxLen; omega) (Nat.le_refl _) ?_; intro w2 hown hgrow))
  have hb2 := hb1.grown hgrow hb1.size (by simp)
  have hb2s := hb2.size
  have hb1s := hb1.size
  have hblk : w2.heap[w1.heap.size]? = some (.cells ((List.replicate (m + n) zeroIns).flatMap Ins.cells).toArray 57 (0, 0)) := by
    obtain ⟨hxl, hx⟩ := hown
    rcases hx with ⟨hx, _⟩ | ⟨g, cap2, cur, hx, _, hg, _, _, hcs, htk⟩
    · simp at hx
    · simp only [Value.slice.injEq, Option.some.injEq, Addr.mk.injEq] at hx
      obtain ⟨⟨rfl, _, _⟩, _, rfl⟩ := hx
      rw [made_zero, List.take_of_length_le (by rw [Array.length_toList]; omega)] at htk
      rw [hg, ← htk]
  clear hown
  have hsrc : ∀ a1, ao = some a1 → ∀ j v, (l.flatMap Ins.cells)[j]? = some v → w2.cell? (a1.add j) = some v := by
    intro a1 ha j v hv
    have hv2 := hv
    have h0 : 0 < l.length := by
      rcases Nat.eq_zero_or_pos l.length with h0 | h0
      · rw [List.eq_nil_of_length_eq_zero h0] at hv2; simp at hv2
      · exact h0
    have h1 := hp.at_ (by intro e; rw [e] at h0; simp at h0)
    subst h1
    rw [Option.some.injEq] at ha
    subst ha
    exact (hp.below hb2).news j v hv
  have hm0 : ao = none → m = 0 := by
    intro h
    rcases Nat.eq_zero_or_pos m with h0 | h0
    · exact h0
    · have h1 := hp.at_ (by intro e; have := Hm.out; rw [e] at this; simp at this; omega)
      rw [h] at h1; cases h1
  have hmin : Nat.min m (m + n) = m := Nat.min_eq_left (Nat.le_add_right m n)
  obtain ⟨w3, hrun, hblk3, hb3⟩ := copy_k (P := Try.prog) (w := w2) 43 43 3 57 5 Try.underlying43 hsz w1.heap.size (m + n) (m + n) ao m cap _ 57 hblk (l.flatMap Ins.cells) (by rw [hmin]; exact Hlt.out.1) hsrc (fun h => ⟨hm0 h, hnil h⟩) (by rw [Hlt.out.1, flat_len, List.length_replicate]; omega) Hlt.out.2
  rw [hmin] at hrun
  have hpr : BlkProg w3 w.heap.size w1.heap.size (padP l 0 ++ List.replicate n zeroIns) := by
    refine ⟨hb1s, ?_⟩
    rw [hblk3, Hlt.out.1, flat_drop]
    simp [padP]
  have Hpr := Lib.hid hpr
  have hrun2 := hrun
  have Hrun := Lib.hid hrun
  clear hrun hrun2 hsrc hblk hblk3 hgrow hpr
  go_wp2_with fail
  rw [Hrun.out]
  simp only [Result.andThen]
  rw [Oper.upon_value]
  go_wp2_with fail
  have hbel3 := hb2.trans (hb3.mono hb1s)
  have hnpos : (0 : Int) ≤ n := by omega
  generalize w1.heap.size = G at *
  clear hsz hi hz0 hz1 hz2 hb1 hb2 hb2s hb3 hnil hm0 hp
  go_loopw [34, 7] (fun i _ wr => ∃ k : Nat, i = .int .i64 k ∧ k ≤ n ∧ BlkProg wr w.heap.size G (padP l k ++ List.replicate (n - k) zeroIns) ∧ Below w.heap.size w wr) (fun i _ _ => n - (intOf i).toNat)
  case atStart => exact ⟨0, rfl, by omega, Hpr.out, hbel3⟩
  case round =>
    obtain ⟨k, rfl, hk, hbp, hbel⟩ := hrel
    by_cases hlt : (k : Int) < (n : Int)
    · have hll : (padP l k ++ List.replicate (n - k) zeroIns).length = m + n := by
        simp [padP, Hm.out]; omega
      have c0 := hbp.cell (m + k) 0 (by omega) (by omega)
      have c1 := hbp.cell (m + k) 1 (by omega) (by omega)
      have c2 := hbp.cell (m + k) 2 (by omega) (by omega)
      have c3 := hbp.cell (m + k) 3 (by omega) (by omega)
      have c4 := hbp.cell (m + k) 4 (by omega) (by omega)
      simp only [Ins.cells, List.getElem?_cons_zero, List.getElem?_cons_succ, Nat.add_zero] at c0 c1 c2 c3 c4
      have f0 := hbp.frozen ((m + k) * 5)
      have f1 := hbp.frozen ((m + k) * 5 + 1)
      have f2 := hbp.frozen ((m + k) * 5 + 2)
      have f3 := hbp.frozen ((m + k) * 5 + 3)
      have f4 := hbp.frozen ((m + k) * 5 + 4)
      have hst := hbp.store5 (m + k) moveIns (by omega)
      have hset : (padP l k ++ List.replicate (n - k) zeroIns).set (m + k) moveIns = padP l (k + 1) ++ List.replicate (n - (k + 1)) zeroIns := pad_set l k n m Hm.out (by omega)
      rw [hset] at hst
      simp only [moveIns] at hst
      generalize (padP l k ++ List.replicate (n - k) zeroIns).getD (m + k) default = z at *
      have Hst := Lib.hid hst
      clear hst hset hll hbp
      go_wp2_with fail
      go_roundw
      case rel => exact ⟨k + 1, by go_num, by omega, Hst.out, ((((hbel.setCell (p := ⟨G, _, none⟩) hb1s _).setCell (p := ⟨G, _, none⟩) hb1s _).setCell (p := ⟨G, _, none⟩) hb1s _).setCell (p := ⟨G, _, none⟩) hb1s _).setCell (p := ⟨G, _, none⟩) hb1s _⟩
      case measure => simp [intOf] <;> omega
    · obtain rfl : k = n := by omega
      have hfin : padP l k ++ List.replicate (k - k) zeroIns = padP l k := by simp
      rw [hfin] at hbp
      have Hbp := Lib.hid hbp
      clear hfin hbp hlt hk
      go_wp2_with fail
      go_ret2
      exact ⟨⟨_, rfl, Hbp.out⟩, hbel⟩

set_option maxRecDepth 100000 in
/-- the answers of Pad that are errors -/
theorem pad_no (ao : Option Addr) (b o cap : Nat) (l : List Ins) (n : Int) (w : World) (hp : ProgIn w ao b o l) (hlen : l.length ≤ 140737488351232) (code : Int)
    (h : validP l = false ∧ code = 1 ∨ validP l = true ∧ (n < 0 ∨ 1000 < n) ∧ code = 2 ∨ validP l = true ∧ 0 ≤ n ∧ n ≤ 1000 ∧ 4000 < (l.length : Int) + n ∧ code = 3) :
    Calls Try.prog 47 #[.slice ao l.length cap, .int .i64 n] w fun e w' => e = .returned (.tuple #[.slice none 0 0, .int .i64 code]) ∧ Below w.heap.size w w' := by
  have hc := cvalid_c ao b o cap l w hp hlen
  rcases h with ⟨hv, rfl⟩ | ⟨hv, hn, rfl⟩ | ⟨hv, hn0, hn1, hn2, rfl⟩
  · rw [show goodP 4000 2000000 l = false from hv] at hc
    have Hc := Lib.hid hc
    clear hc hv
    go_enter Try.func47, Try.ntmps47
    go_wp2_with (go_at_call 104; refine Hc.out.mono ?_; rintro e w1 ⟨rfl, hb1⟩)
    go_ret2
    exact ⟨rfl, hb1⟩
  · rw [show goodP 4000 2000000 l = true from hv] at hc
    have Hc := Lib.hid hc
    have ht : (decide (n < 0) || decide (1000 < n)) = true := by simpa using hn
    clear hc hv hn
    go_enter Try.func47, Try.ntmps47
    go_wp2_with (go_at_call 104; refine Hc.out.mono ?_; rintro e w1 ⟨rfl, hb1⟩)
    all_goals (go_ret2; exact ⟨rfl, hb1⟩)
  · have hm := goodP_len hv
    rw [show goodP 4000 2000000 l = true from hv] at hc
    have Hc := Lib.hid hc
    clear hc hv
    go_enter Try.func47, Try.ntmps47
    go_wp2_with (go_at_call 104; refine Hc.out.mono ?_; rintro e w1 ⟨rfl, hb1⟩)
    go_ret2
    exact ⟨rfl, hb1⟩

end Go.Proofs.Ythmnbciefpkpmaa
