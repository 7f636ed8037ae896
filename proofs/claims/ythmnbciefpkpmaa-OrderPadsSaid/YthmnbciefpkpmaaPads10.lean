/- The walks of Small of the seventh reference, of Pad of the tenth, and of OrderPads of narcissuslaw10. -/
import Derived.Test.YthmnbciefpkpmaaRef2
import Derived.Test.YthmnbciefpkpmaaAwake10
namespace Go.Proofs.Ythmnbciefpkpmaa
open Go.RowKit

def SmallPost (w : World) (e : Ending) (w' : World) : Prop := (∃ v : Bool, e = .returned (.bool v)) ∧ w = w'

set_option maxRecDepth 100000 in
theorem small_any (most : Int) (g n cap : Nat) (w : World) (hn : n ≤ 100)
    (h : ∀ i, i < n → ∃ ao b o cp l, w.cell? ⟨g, i, none⟩ = some (.slice ao l.length cp) ∧ ProgIn w ao b o l ∧ l.length ≤ 2932031007402) :
    Calls Try.prog 39 #[.int .i64 most, .slice (some ⟨g, 0, none⟩) n cap] w (SmallPost w) := by
  have hni : (n : Int) ≤ 100 := by omega
  have Hh := Lib.hid h
  clear h
  go_enter Try.func39, Try.ntmps39
  go_wp2_with fail
  go_loop [5, 6] (fun m i => ∃ (k : Nat) (v : Int), k ≤ n ∧ i = .int .i64 k ∧ m = .int .i64 v) (fun _ i => n - (intOf i).toNat)
  case atStart => exact ⟨0, 0, Nat.zero_le _, rfl, rfl⟩
  case round =>
    obtain ⟨k, v, hk, rfl, rfl⟩ := hrel
    by_cases hlt : k < n
    · obtain ⟨ao, b, o, cp, l, c0, hp, hl⟩ := Hh.out k hlt
      have hc := fun w hp => trees_any ao b o cp l w hp (by omega)
      have Hc := Lib.hid (hc w hp)
      have i2 : (k : Int) < (n : Int) := by omega
      generalize l.length = N at *
      clear hc hp
      go_wp2_with (go_at_call 100; refine (Hc.out).mono ?_; rintro e w' ⟨⟨u, rfl⟩, rfl⟩)
      · go_ret
        exact ⟨⟨_, rfl⟩, rfl⟩
      · go_round
        case rel => exact ⟨k + 1, _, by omega, by go_num, rfl⟩
        case measure => simp [intOf]; omega
    · have i2 : (n : Int) ≤ (k : Int) := by omega
      go_wp2_with fail
      go_ret
      exact ⟨⟨_, rfl⟩, rfl⟩

theorem OwnProg.push {w1 : World} {B cap2 g2 : Nat} {l : List Ins} {x : Ins} (h1 : w1.ownsRow B 57 5 (.slice (some ⟨g2, 0, none⟩) (l.length + 1) cap2) (l.length + 1) (l.flatMap Ins.cells ++ x.cells)) : OwnProg w1 B (some ⟨g2, 0, none⟩) cap2 (l ++ [x]) := by
  unfold OwnProg
  rw [List.length_append, List.flatMap_append]
  simpa using h1

def PadPost (w : World) (l : List Ins) (n : Nat) (e : Ending) (w' : World) : Prop := (∃ ao cap, e = .returned (.slice ao (padP l n).length cap) ∧ OwnProg w' w.heap.size ao cap (padP l n)) ∧ Below w.heap.size w w'

theorem padP_succ (l : List Ins) (k : Nat) : padP l (k + 1) = padP l k ++ [moveIns] := by
  unfold padP; rw [List.replicate_succ']; simp

set_option maxRecDepth 100000 in
set_option maxHeartbeats 1000000 in
theorem pad10_c (ao : Option Addr) (b o cap : Nat) (l : List Ins) (n : Nat) (w : World) (hp : ProgIn w ao b o l) (hlen : l.length ≤ 4000) (hnil : ao = none → cap = 0) (hn : n ≤ 1000) :
    Calls Try.prog 46 #[.slice ao l.length cap, .int .i64 n] w (PadPost w l n) := by
  obtain ⟨i0, hi, hz0, hz1, hz2⟩ := info_parts Try.info57
  have ht := r02_Twin_c ao b o cap l w hp (by omega) hnil
  have Ht := Lib.hid ht
  have hni : (n : Int) ≤ 1000 := by omega
  clear ht hp
  go_enter Try.func46, Try.ntmps46
  go_wp2_with fail
  refine Ht.out.mono ?_
  rintro e w1 ⟨⟨ao1, cap1, rfl, hown⟩, hb1⟩
  have hB1 := hb1.size
  have hown0 : OwnProg w1 w.heap.size ao1 cap1 (padP l 0) := by simpa [padP] using hown
  have hl0 : l.length = (padP l 0).length := by simp [padP]
  rw [hl0]
  clear hown Ht hl0
  go_wp2_with fail
  go_loopw [5, 6] (fun v i wr => ∃ (k : Nat) (ao : Option Addr) (cap : Nat), k ≤ n ∧ i = .int .i64 k ∧ v = .slice ao (padP l k).length cap ∧ OwnProg wr w.heap.size ao cap (padP l k) ∧ Below w.heap.size w wr ∧ w.heap.size ≤ wr.heap.size) (fun _ i _ => n - (intOf i).toNat)
  case atStart => exact ⟨0, ao1, cap1, Nat.zero_le _, rfl, rfl, hown0, hb1, hB1⟩
  case round =>
    obtain ⟨k, ao2, cap2, hk, rfl, rfl, hown, hbel, hBw⟩ := hrel
    clear hown0 hb1 hB1
    have hln := padP_len l k
    have hsc := padP_succ l k
    by_cases hlt : (k : Int) < (n : Int)
    · have hlk : (padP l k).length ≤ 5000 := by omega
      unfold OwnProg at hown
      have hs2 : (padP l (k + 1)).length = (padP l k).length + 1 := by rw [hsc]; simp
      generalize padP l k = P at *
      have HS := Lib.hid (And.intro hsc hs2)
      clear hsc hs2 hln
      go_wp2_with (at_builtin; refine wpList_append_lies _ rfl _ _ 43 rfl w.heap.size 57 i0 _ 5 48 Try.underlying43 hi hz0 hz1 hz2 rfl (by decide) (.slice ao2 P.length cap2) P.length (P.flatMap Ins.cells) rfl (hown.alloc _) ⟨wr.heap.size, 0, none⟩ 1 1 moveIns.cells rfl rfl (World.news_of_block (heap_alloc_new _ _)) (by simp [Ins.cells, moveIns, Value.oneCell']) (by decide) (by unfold maxLen; omega) (by omega) (by simp; omega) (wr.heap.size + 1) (by simp) ?_)
      intro g2 cap3 w2 hown2 hgrow hat hlt2
      have hbel2 := (hbel.alloc hBw (.cells #[.int .i64 1, .int .i64 0, .int .i64 0, .int .i64 0, .string ⟨#[]⟩] 57 (0, 0))).grown hgrow (by simp; omega) (fun k hk => (hown.lt k hk).1)
      have hown3 : OwnProg w2 w.heap.size (some ⟨g2, 0, none⟩) cap3 (P ++ [moveIns]) := OwnProg.push hown2
      have hB2 := hbel2.size
      have HH := Lib.hid (And.intro hown3 hbel2)
      clear hown2 hgrow hat hlt2 hown hbel hown3 hbel2
      go_wp2_with fail
      go_roundw
      case rel => exact ⟨k + 1, some ⟨g2, 0, none⟩, cap3, by omega, by go_num, by rw [HS.out.2], by rw [HS.out.1]; exact HH.out.1, HH.out.2, hB2⟩
      case measure => simp [intOf] <;> omega
    · obtain rfl : k = n := by omega
      generalize hP : padP l k = P at *
      have HP := Lib.hid hP
      clear hlt hsc hln hP
      go_wp2_with fail
      go_ret
      exact ⟨⟨ao2, cap2, by rw [HP.out]; rfl, by rw [HP.out]; exact hown⟩, hbel⟩



theorem ProgIn.belowG {w w' : World} {G : Nat} {ao : Option Addr} {b o : Nat} {l : List Ins} (h : ProgIn w ao b o l) (hb : Below G w w') (hG : l ≠ [] → b < G) : ProgIn w' ao b o l :=
  ⟨h.at_, fun i hi => (h.ins i hi).below hb (hG (by intro e; subst e; simp at hi)), fun hl => Nat.lt_of_lt_of_le (h.lt hl) hb.size, h.sz⟩

theorem progIn_nil' (w : World) (ao : Option Addr) : ProgIn w ao 0 0 [] := ⟨fun h => absurd rfl h, fun i hi => absurd hi (Nat.not_lt_zero i), fun h => absurd rfl h, fun x hx => by simp at hx⟩

set_option maxRecDepth 100000 in
set_option maxHeartbeats 4000000 in
theorem pads_bad (ao : Option Addr) (b o cap : Nat) (l : List Ins) (n : Int) (w : World) (hp : ProgIn w ao b o l) (hlen : l.length ≤ 2932031007402) (hnil : ao = none → cap = 0) (hgv : goodP 4000 2000000 l = false) :
    Calls Try.prog 12 #[.slice ao l.length cap, .int .i64 n] w fun e w' => e = .returned (.bool true) ∧ Below w.heap.size w w' := by
  have Hpad := Lib.hid (fun w hp => pad_no ao b o cap l n w hp (by omega) 1 (Or.inl ⟨hgv, rfl⟩))
  go_enter Try.func12, Try.ntmps12
  go_wp2_with fail
  have hbx := (Below.refl w.heap.size w).alloc (Nat.le_refl _) (.cells #[.slice ao l.length cap] 43 (0, 0))
  have hpx := hp.below hbx
  have hcx : (w.alloc (.cells #[.slice ao l.length cap] 43 (0, 0))).cell? ⟨w.heap.size, 0, none⟩ = some (.slice ao l.length cap) := cell_of_block (heap_alloc_new _ _) 0
  generalize w.alloc (.cells #[.slice ao l.length cap] 43 (0, 0)) = wx at *
  refine (small_any 2100000 w.heap.size 1 1 _ (by decide) (fun i hi => by
    obtain rfl : i = 0 := by omega
    exact ⟨ao, b, o, cap, l, hcx, hpx, hlen⟩)).mono ?_
  rintro e wy ⟨⟨v, rfl⟩, rfl⟩
  clear hcx
  cases v with
  | false =>
    go_wp2_with fail
    refine (awake10_c _).mono ?_
    rintro e w6 ⟨rfl, hb6⟩
    go_wp2_with fail
    go_ret
    exact ⟨rfl, hbx.trans (hb6.mono hbx.size)⟩
  | true =>
    go_wp2_with fail
    refine (r02_Twin_c ao b o cap l _ hpx hlen hnil).mono ?_
    rintro e w2 ⟨⟨ao1, cap1, rfl, hown1⟩, hb2⟩
    obtain ⟨b1, hp1, _⟩ := hown1.progIn hpx.sz
    have hp2 := hpx.below hb2
    have hbel2 := hbx.trans (hb2.mono hbx.size)
    clear hbx hb2 hpx hp
    go_wp2_with fail
    have hbel3 := hbel2.alloc hbel2.size (.cells #[] 57)
    have hp3 := hp2.below ((Below.refl _ w2).alloc (Nat.le_refl _) (.cells #[] 57))
    have hp13 := hp1.below ((Below.refl _ w2).alloc (Nat.le_refl _) (.cells #[] 57))
    generalize w2.alloc (.cells #[] 57) = w3 at *
    generalize w2.heap.size = D at *
    refine (valid2_c ao1 b1 0 cap1 l _ hp13).mono ?_
    rintro e w4 ⟨rfl, hb4⟩
    have hbel4 := hbel3.trans (hb4.mono hbel3.size)
    have hp4 := hp3.below hb4
    have hp14 := hp13.below hb4
    have hB4 := hbel4.size
    have hln1 : ao1 = none → cap1 = 0 := by
      intro e
      subst e
      rcases hown1.2 with ⟨h0, _⟩ | ⟨g', cap', cur, hv, _⟩
      · simp only [Value.slice.injEq] at h0; exact h0.2.2
      · simp at hv
    clear hbel2 hp2 hp1 hbel3 hp3 hp13 hb4 hown1
    rw [hgv]
    go_wp2_with fail
    go_loopw [8] (fun i wr => ∃ k : Nat, k ≤ 2 ∧ i = .int .i64 k ∧ ProgIn wr ao b o l ∧ ProgIn wr ao1 b1 0 l ∧ Below w.heap.size w wr ∧ w.heap.size ≤ wr.heap.size) (fun i _ => 2 - (intOf i).toNat)
    case atStart => exact ⟨0, by omega, rfl, hp4, hp14, hbel4, hB4⟩
    case round =>
      obtain ⟨k, hk, rfl, hpr, hp1r, hbel, hBw⟩ := hrel
      clear hp4 hp14 hbel4 hB4
      by_cases hlt : (k : Int) < 2
      · go_wp2_with fail
        refine (Hpad.out _ hpr).mono ?_
        rintro e y1 ⟨rfl, hy1⟩
        have hpr1 := hpr.below hy1
        have hp1r1 := hp1r.below hy1
        have hbel1 := hbel.trans (hy1.mono hBw)
        clear hpr hp1r hbel hy1
        go_wp2_with fail
        refine (same_c none (some ⟨D, 0, none⟩) 0 0 0 0 0 0 [] [] _ (progIn_nil' _ _) (progIn_nil' _ _) (by decide) (by decide)).mono ?_
        rintro e y2 ⟨rfl, n2, rfl⟩
        have hpr2 := hpr1.below (below_drewN (Below.refl _ _) n2)
        have hp1r2 := hp1r1.below (below_drewN (Below.refl _ _) n2)
        have hbel2 := below_drewN hbel1 n2
        generalize y1.drewN n2 = y2 at *
        have hst : sameP [] [] = true := rfl
        rw [hst]
        clear hpr1 hp1r1 hbel1
        go_wp2_with fail
        refine (same_c ao ao1 b o b1 0 cap cap1 l l _ hpr2 hp1r2 (by omega) (by omega)).mono ?_
        rintro e y3 ⟨rfl, n3, rfl⟩
        have hpr3 := hpr2.below (below_drewN (Below.refl _ _) n3)
        have hp1r3 := hp1r2.below (below_drewN (Below.refl _ _) n3)
        have hbel3 := below_drewN hbel2 n3
        generalize y2.drewN n3 = y3 at *
        rw [(sameP_iff l l).2 rfl]
        have hB3 := hbel3.size
        clear hpr2 hp1r2 hbel2
        go_wp2_with fail
        go_loopw [11] (fun i wr3 => ∃ j : Nat, j ≤ 0 ∧ i = .int .i64 j ∧ wr3 = y3) (fun i _ => 0 - (intOf i).toNat)
        case atStart => exact ⟨0, Nat.le_refl _, rfl, rfl⟩
        case round =>
          obtain ⟨j, hj, rfl, rfl⟩ := hrel
          obtain rfl : j = 0 := by omega
          go_wp2_with fail
          go_roundw
          case rel => exact ⟨k + 1, by omega, by go_num, hpr3, hp1r3, hbel3, hB3⟩
          case measure => simp [intOf] <;> omega
      · obtain rfl : k = 2 := by omega
        go_wp2_with fail
        refine (same_c ao ao1 b o b1 0 cap cap1 l l _ hpr hp1r (by omega) (by omega)).mono ?_
        rintro e y3 ⟨rfl, n3, rfl⟩
        have hbel3 := below_drewN hbel n3
        generalize wr.drewN n3 = y3 at *
        rw [(sameP_iff l l).2 rfl]
        clear hbel hpr hp1r
        go_wp2_with fail
        refine (awake10_c _).mono ?_
        rintro e w6 ⟨rfl, hb6⟩
        go_wp2_with fail
        go_ret
        exact ⟨rfl, hbel3.trans (hb6.mono hbel3.size)⟩

set_option maxRecDepth 100000 in
set_option maxHeartbeats 4000000 in
theorem pads_neg (ao : Option Addr) (b o cap : Nat) (l : List Ins) (n : Int) (w : World) (hp : ProgIn w ao b o l) (hlen : l.length ≤ 2932031007402) (hnil : ao = none → cap = 0) (hgv : goodP 4000 2000000 l = true) (h : n < 0) :
    Calls Try.prog 12 #[.slice ao l.length cap, .int .i64 n] w fun e w' => e = .returned (.bool true) ∧ Below w.heap.size w w' := by
  have Hpad := Lib.hid (fun w hp => pad_no ao b o cap l n w hp (by omega) 2 (Or.inr (Or.inl ⟨hgv, Or.inl h, rfl⟩)))
  go_enter Try.func12, Try.ntmps12
  go_wp2_with fail
  have hbx := (Below.refl w.heap.size w).alloc (Nat.le_refl _) (.cells #[.slice ao l.length cap] 43 (0, 0))
  have hpx := hp.below hbx
  have hcx : (w.alloc (.cells #[.slice ao l.length cap] 43 (0, 0))).cell? ⟨w.heap.size, 0, none⟩ = some (.slice ao l.length cap) := cell_of_block (heap_alloc_new _ _) 0
  generalize w.alloc (.cells #[.slice ao l.length cap] 43 (0, 0)) = wx at *
  refine (small_any 2100000 w.heap.size 1 1 _ (by decide) (fun i hi => by
    obtain rfl : i = 0 := by omega
    exact ⟨ao, b, o, cap, l, hcx, hpx, hlen⟩)).mono ?_
  rintro e wy ⟨⟨v, rfl⟩, rfl⟩
  clear hcx
  cases v with
  | false =>
    go_wp2_with fail
    refine (awake10_c _).mono ?_
    rintro e w6 ⟨rfl, hb6⟩
    go_wp2_with fail
    go_ret
    exact ⟨rfl, hbx.trans (hb6.mono hbx.size)⟩
  | true =>
    go_wp2_with fail
    refine (r02_Twin_c ao b o cap l _ hpx hlen hnil).mono ?_
    rintro e w2 ⟨⟨ao1, cap1, rfl, hown1⟩, hb2⟩
    obtain ⟨b1, hp1, _⟩ := hown1.progIn hpx.sz
    have hp2 := hpx.below hb2
    have hbel2 := hbx.trans (hb2.mono hbx.size)
    clear hbx hb2 hpx hp
    go_wp2_with fail
    have hbel3 := hbel2.alloc hbel2.size (.cells #[] 57)
    have hp3 := hp2.below ((Below.refl _ w2).alloc (Nat.le_refl _) (.cells #[] 57))
    have hp13 := hp1.below ((Below.refl _ w2).alloc (Nat.le_refl _) (.cells #[] 57))
    generalize w2.alloc (.cells #[] 57) = w3 at *
    generalize w2.heap.size = D at *
    refine (valid2_c ao1 b1 0 cap1 l _ hp13).mono ?_
    rintro e w4 ⟨rfl, hb4⟩
    have hbel4 := hbel3.trans (hb4.mono hbel3.size)
    have hp4 := hp3.below hb4
    have hp14 := hp13.below hb4
    have hB4 := hbel4.size
    have hln1 : ao1 = none → cap1 = 0 := by
      intro e
      subst e
      rcases hown1.2 with ⟨h0, _⟩ | ⟨g', cap', cur, hv, _⟩
      · simp only [Value.slice.injEq] at h0; exact h0.2.2
      · simp at hv
    clear hbel2 hp2 hp1 hbel3 hp3 hp13 hb4 hown1
    rw [hgv]
    go_wp2_with fail
    go_loopw [8] (fun i wr => ∃ k : Nat, k ≤ 2 ∧ i = .int .i64 k ∧ ProgIn wr ao b o l ∧ ProgIn wr ao1 b1 0 l ∧ Below w.heap.size w wr ∧ w.heap.size ≤ wr.heap.size) (fun i _ => 2 - (intOf i).toNat)
    case atStart => exact ⟨0, by omega, rfl, hp4, hp14, hbel4, hB4⟩
    case round =>
      obtain ⟨k, hk, rfl, hpr, hp1r, hbel, hBw⟩ := hrel
      clear hp4 hp14 hbel4 hB4
      by_cases hlt : (k : Int) < 2
      · go_wp2_with fail
        refine (Hpad.out _ hpr).mono ?_
        rintro e y1 ⟨rfl, hy1⟩
        have hpr1 := hpr.below hy1
        have hp1r1 := hp1r.below hy1
        have hbel1 := hbel.trans (hy1.mono hBw)
        clear hpr hp1r hbel hy1
        go_wp2_with fail
        refine (same_c none (some ⟨D, 0, none⟩) 0 0 0 0 0 0 [] [] _ (progIn_nil' _ _) (progIn_nil' _ _) (by decide) (by decide)).mono ?_
        rintro e y2 ⟨rfl, n2, rfl⟩
        have hpr2 := hpr1.below (below_drewN (Below.refl _ _) n2)
        have hp1r2 := hp1r1.below (below_drewN (Below.refl _ _) n2)
        have hbel2 := below_drewN hbel1 n2
        generalize y1.drewN n2 = y2 at *
        have hst : sameP [] [] = true := rfl
        rw [hst]
        clear hpr1 hp1r1 hbel1
        go_wp2_with fail
        refine (same_c ao ao1 b o b1 0 cap cap1 l l _ hpr2 hp1r2 (by omega) (by omega)).mono ?_
        rintro e y3 ⟨rfl, n3, rfl⟩
        have hpr3 := hpr2.below (below_drewN (Below.refl _ _) n3)
        have hp1r3 := hp1r2.below (below_drewN (Below.refl _ _) n3)
        have hbel3 := below_drewN hbel2 n3
        generalize y2.drewN n3 = y3 at *
        rw [(sameP_iff l l).2 rfl]
        have hB3 := hbel3.size
        clear hpr2 hp1r2 hbel2
        go_wp2_with fail
        go_loopw [11] (fun i wr3 => ∃ j : Nat, j ≤ 0 ∧ i = .int .i64 j ∧ wr3 = y3) (fun i _ => 0 - (intOf i).toNat)
        case atStart => exact ⟨0, Nat.le_refl _, rfl, rfl⟩
        case round =>
          obtain ⟨j, hj, rfl, rfl⟩ := hrel
          obtain rfl : j = 0 := by omega
          go_wp2_with fail
          go_roundw
          case rel => exact ⟨k + 1, by omega, by go_num, hpr3, hp1r3, hbel3, hB3⟩
          case measure => simp [intOf] <;> omega
      · obtain rfl : k = 2 := by omega
        go_wp2_with fail
        refine (same_c ao ao1 b o b1 0 cap cap1 l l _ hpr hp1r (by omega) (by omega)).mono ?_
        rintro e y3 ⟨rfl, n3, rfl⟩
        have hbel3 := below_drewN hbel n3
        generalize wr.drewN n3 = y3 at *
        rw [(sameP_iff l l).2 rfl]
        clear hbel hpr hp1r
        go_wp2_with fail
        refine (awake10_c _).mono ?_
        rintro e w6 ⟨rfl, hb6⟩
        go_wp2_with fail
        go_ret
        exact ⟨rfl, hbel3.trans (hb6.mono hbel3.size)⟩

set_option maxRecDepth 100000 in
set_option maxHeartbeats 4000000 in
theorem pads_many (ao : Option Addr) (b o cap : Nat) (l : List Ins) (n : Int) (w : World) (hp : ProgIn w ao b o l) (hlen : l.length ≤ 2932031007402) (hnil : ao = none → cap = 0) (hgv : goodP 4000 2000000 l = true) (h0 : 0 ≤ n) (h : 1000 < n) :
    Calls Try.prog 12 #[.slice ao l.length cap, .int .i64 n] w fun e w' => e = .returned (.bool true) ∧ Below w.heap.size w w' := by
  have Hpad := Lib.hid (fun w hp => pad_no ao b o cap l n w hp (by omega) 2 (Or.inr (Or.inl ⟨hgv, Or.inr h, rfl⟩)))
  go_enter Try.func12, Try.ntmps12
  go_wp2_with fail
  have hbx := (Below.refl w.heap.size w).alloc (Nat.le_refl _) (.cells #[.slice ao l.length cap] 43 (0, 0))
  have hpx := hp.below hbx
  have hcx : (w.alloc (.cells #[.slice ao l.length cap] 43 (0, 0))).cell? ⟨w.heap.size, 0, none⟩ = some (.slice ao l.length cap) := cell_of_block (heap_alloc_new _ _) 0
  generalize w.alloc (.cells #[.slice ao l.length cap] 43 (0, 0)) = wx at *
  refine (small_any 2100000 w.heap.size 1 1 _ (by decide) (fun i hi => by
    obtain rfl : i = 0 := by omega
    exact ⟨ao, b, o, cap, l, hcx, hpx, hlen⟩)).mono ?_
  rintro e wy ⟨⟨v, rfl⟩, rfl⟩
  clear hcx
  cases v with
  | false =>
    go_wp2_with fail
    refine (awake10_c _).mono ?_
    rintro e w6 ⟨rfl, hb6⟩
    go_wp2_with fail
    go_ret
    exact ⟨rfl, hbx.trans (hb6.mono hbx.size)⟩
  | true =>
    go_wp2_with fail
    refine (r02_Twin_c ao b o cap l _ hpx hlen hnil).mono ?_
    rintro e w2 ⟨⟨ao1, cap1, rfl, hown1⟩, hb2⟩
    obtain ⟨b1, hp1, _⟩ := hown1.progIn hpx.sz
    have hp2 := hpx.below hb2
    have hbel2 := hbx.trans (hb2.mono hbx.size)
    clear hbx hb2 hpx hp
    go_wp2_with fail
    have hbel3 := hbel2.alloc hbel2.size (.cells #[] 57)
    have hp3 := hp2.below ((Below.refl _ w2).alloc (Nat.le_refl _) (.cells #[] 57))
    have hp13 := hp1.below ((Below.refl _ w2).alloc (Nat.le_refl _) (.cells #[] 57))
    generalize w2.alloc (.cells #[] 57) = w3 at *
    generalize w2.heap.size = D at *
    refine (valid2_c ao1 b1 0 cap1 l _ hp13).mono ?_
    rintro e w4 ⟨rfl, hb4⟩
    have hbel4 := hbel3.trans (hb4.mono hbel3.size)
    have hp4 := hp3.below hb4
    have hp14 := hp13.below hb4
    have hB4 := hbel4.size
    have hln1 : ao1 = none → cap1 = 0 := by
      intro e
      subst e
      rcases hown1.2 with ⟨h0, _⟩ | ⟨g', cap', cur, hv, _⟩
      · simp only [Value.slice.injEq] at h0; exact h0.2.2
      · simp at hv
    clear hbel2 hp2 hp1 hbel3 hp3 hp13 hb4 hown1
    rw [hgv]
    go_wp2_with fail
    go_loopw [8] (fun i wr => ∃ k : Nat, k ≤ 2 ∧ i = .int .i64 k ∧ ProgIn wr ao b o l ∧ ProgIn wr ao1 b1 0 l ∧ Below w.heap.size w wr ∧ w.heap.size ≤ wr.heap.size) (fun i _ => 2 - (intOf i).toNat)
    case atStart => exact ⟨0, by omega, rfl, hp4, hp14, hbel4, hB4⟩
    case round =>
      obtain ⟨k, hk, rfl, hpr, hp1r, hbel, hBw⟩ := hrel
      clear hp4 hp14 hbel4 hB4
      by_cases hlt : (k : Int) < 2
      · go_wp2_with fail
        refine (Hpad.out _ hpr).mono ?_
        rintro e y1 ⟨rfl, hy1⟩
        have hpr1 := hpr.below hy1
        have hp1r1 := hp1r.below hy1
        have hbel1 := hbel.trans (hy1.mono hBw)
        clear hpr hp1r hbel hy1
        go_wp2_with fail
        refine (same_c none (some ⟨D, 0, none⟩) 0 0 0 0 0 0 [] [] _ (progIn_nil' _ _) (progIn_nil' _ _) (by decide) (by decide)).mono ?_
        rintro e y2 ⟨rfl, n2, rfl⟩
        have hpr2 := hpr1.below (below_drewN (Below.refl _ _) n2)
        have hp1r2 := hp1r1.below (below_drewN (Below.refl _ _) n2)
        have hbel2 := below_drewN hbel1 n2
        generalize y1.drewN n2 = y2 at *
        have hst : sameP [] [] = true := rfl
        rw [hst]
        clear hpr1 hp1r1 hbel1
        go_wp2_with fail
        refine (same_c ao ao1 b o b1 0 cap cap1 l l _ hpr2 hp1r2 (by omega) (by omega)).mono ?_
        rintro e y3 ⟨rfl, n3, rfl⟩
        have hpr3 := hpr2.below (below_drewN (Below.refl _ _) n3)
        have hp1r3 := hp1r2.below (below_drewN (Below.refl _ _) n3)
        have hbel3 := below_drewN hbel2 n3
        generalize y2.drewN n3 = y3 at *
        rw [(sameP_iff l l).2 rfl]
        have hB3 := hbel3.size
        clear hpr2 hp1r2 hbel2
        go_wp2_with fail
        go_loopw [11] (fun i wr3 => ∃ j : Nat, j ≤ 0 ∧ i = .int .i64 j ∧ wr3 = y3) (fun i _ => 0 - (intOf i).toNat)
        case atStart => exact ⟨0, Nat.le_refl _, rfl, rfl⟩
        case round =>
          obtain ⟨j, hj, rfl, rfl⟩ := hrel
          obtain rfl : j = 0 := by omega
          go_wp2_with fail
          go_roundw
          case rel => exact ⟨k + 1, by omega, by go_num, hpr3, hp1r3, hbel3, hB3⟩
          case measure => simp [intOf] <;> omega
      · obtain rfl : k = 2 := by omega
        go_wp2_with fail
        refine (same_c ao ao1 b o b1 0 cap cap1 l l _ hpr hp1r (by omega) (by omega)).mono ?_
        rintro e y3 ⟨rfl, n3, rfl⟩
        have hbel3 := below_drewN hbel n3
        generalize wr.drewN n3 = y3 at *
        rw [(sameP_iff l l).2 rfl]
        clear hbel hpr hp1r
        go_wp2_with fail
        refine (awake10_c _).mono ?_
        rintro e w6 ⟨rfl, hb6⟩
        go_wp2_with fail
        go_ret
        exact ⟨rfl, hbel3.trans (hb6.mono hbel3.size)⟩

set_option maxRecDepth 100000 in
set_option maxHeartbeats 4000000 in
theorem pads_long (ao : Option Addr) (b o cap : Nat) (l : List Ins) (n : Int) (w : World) (hp : ProgIn w ao b o l) (hlen : l.length ≤ 2932031007402) (hnil : ao = none → cap = 0) (hgv : goodP 4000 2000000 l = true) (h0 : 0 ≤ n) (h : n ≤ 1000) (h2 : 4000 < (l.length : Int) + n) :
    Calls Try.prog 12 #[.slice ao l.length cap, .int .i64 n] w fun e w' => e = .returned (.bool true) ∧ Below w.heap.size w w' := by
  have Hpad := Lib.hid (fun w hp => pad_no ao b o cap l n w hp (by omega) 3 (Or.inr (Or.inr ⟨hgv, h0, h, h2, rfl⟩)))
  have hl4 := goodP_len hgv
  go_enter Try.func12, Try.ntmps12
  go_wp2_with fail
  have hbx := (Below.refl w.heap.size w).alloc (Nat.le_refl _) (.cells #[.slice ao l.length cap] 43 (0, 0))
  have hpx := hp.below hbx
  have hcx : (w.alloc (.cells #[.slice ao l.length cap] 43 (0, 0))).cell? ⟨w.heap.size, 0, none⟩ = some (.slice ao l.length cap) := cell_of_block (heap_alloc_new _ _) 0
  generalize w.alloc (.cells #[.slice ao l.length cap] 43 (0, 0)) = wx at *
  refine (small_any 2100000 w.heap.size 1 1 _ (by decide) (fun i hi => by
    obtain rfl : i = 0 := by omega
    exact ⟨ao, b, o, cap, l, hcx, hpx, hlen⟩)).mono ?_
  rintro e wy ⟨⟨v, rfl⟩, rfl⟩
  clear hcx
  cases v with
  | false =>
    go_wp2_with fail
    refine (awake10_c _).mono ?_
    rintro e w6 ⟨rfl, hb6⟩
    go_wp2_with fail
    go_ret
    exact ⟨rfl, hbx.trans (hb6.mono hbx.size)⟩
  | true =>
    go_wp2_with fail
    refine (r02_Twin_c ao b o cap l _ hpx hlen hnil).mono ?_
    rintro e w2 ⟨⟨ao1, cap1, rfl, hown1⟩, hb2⟩
    obtain ⟨b1, hp1, _⟩ := hown1.progIn hpx.sz
    have hp2 := hpx.below hb2
    have hbel2 := hbx.trans (hb2.mono hbx.size)
    clear hbx hb2 hpx hp
    go_wp2_with fail
    have hbel3 := hbel2.alloc hbel2.size (.cells #[] 57)
    have hp3 := hp2.below ((Below.refl _ w2).alloc (Nat.le_refl _) (.cells #[] 57))
    have hp13 := hp1.below ((Below.refl _ w2).alloc (Nat.le_refl _) (.cells #[] 57))
    generalize w2.alloc (.cells #[] 57) = w3 at *
    generalize w2.heap.size = D at *
    refine (valid2_c ao1 b1 0 cap1 l _ hp13).mono ?_
    rintro e w4 ⟨rfl, hb4⟩
    have hbel4 := hbel3.trans (hb4.mono hbel3.size)
    have hp4 := hp3.below hb4
    have hp14 := hp13.below hb4
    have hB4 := hbel4.size
    have hln1 : ao1 = none → cap1 = 0 := by
      intro e
      subst e
      rcases hown1.2 with ⟨h0, _⟩ | ⟨g', cap', cur, hv, _⟩
      · simp only [Value.slice.injEq] at h0; exact h0.2.2
      · simp at hv
    clear hbel2 hp2 hp1 hbel3 hp3 hp13 hb4 hown1
    rw [hgv]
    go_wp2_with fail
    go_loopw [8] (fun i wr => ∃ k : Nat, k ≤ 2 ∧ i = .int .i64 k ∧ ProgIn wr ao b o l ∧ ProgIn wr ao1 b1 0 l ∧ Below w.heap.size w wr ∧ w.heap.size ≤ wr.heap.size) (fun i _ => 2 - (intOf i).toNat)
    case atStart => exact ⟨0, by omega, rfl, hp4, hp14, hbel4, hB4⟩
    case round =>
      obtain ⟨k, hk, rfl, hpr, hp1r, hbel, hBw⟩ := hrel
      clear hp4 hp14 hbel4 hB4
      by_cases hlt : (k : Int) < 2
      · go_wp2_with fail
        refine (Hpad.out _ hpr).mono ?_
        rintro e y1 ⟨rfl, hy1⟩
        have hpr1 := hpr.below hy1
        have hp1r1 := hp1r.below hy1
        have hbel1 := hbel.trans (hy1.mono hBw)
        clear hpr hp1r hbel hy1
        go_wp2_with fail
        refine (same_c none (some ⟨D, 0, none⟩) 0 0 0 0 0 0 [] [] _ (progIn_nil' _ _) (progIn_nil' _ _) (by decide) (by decide)).mono ?_
        rintro e y2 ⟨rfl, n2, rfl⟩
        have hpr2 := hpr1.below (below_drewN (Below.refl _ _) n2)
        have hp1r2 := hp1r1.below (below_drewN (Below.refl _ _) n2)
        have hbel2 := below_drewN hbel1 n2
        generalize y1.drewN n2 = y2 at *
        have hst : sameP [] [] = true := rfl
        rw [hst]
        clear hpr1 hp1r1 hbel1
        go_wp2_with fail
        refine (same_c ao ao1 b o b1 0 cap cap1 l l _ hpr2 hp1r2 (by omega) (by omega)).mono ?_
        rintro e y3 ⟨rfl, n3, rfl⟩
        have hpr3 := hpr2.below (below_drewN (Below.refl _ _) n3)
        have hp1r3 := hp1r2.below (below_drewN (Below.refl _ _) n3)
        have hbel3 := below_drewN hbel2 n3
        generalize y2.drewN n3 = y3 at *
        rw [(sameP_iff l l).2 rfl]
        have hB3 := hbel3.size
        clear hpr2 hp1r2 hbel2
        go_wp2_with fail
        go_loopw [11] (fun i wr3 => ∃ j : Nat, j ≤ 0 ∧ i = .int .i64 j ∧ wr3 = y3) (fun i _ => 0 - (intOf i).toNat)
        case atStart => exact ⟨0, Nat.le_refl _, rfl, rfl⟩
        case round =>
          obtain ⟨j, hj, rfl, rfl⟩ := hrel
          obtain rfl : j = 0 := by omega
          go_wp2_with fail
          go_roundw
          case rel => exact ⟨k + 1, by omega, by go_num, hpr3, hp1r3, hbel3, hB3⟩
          case measure => simp [intOf] <;> omega
      · obtain rfl : k = 2 := by omega
        go_wp2_with fail
        refine (same_c ao ao1 b o b1 0 cap cap1 l l _ hpr hp1r (by omega) (by omega)).mono ?_
        rintro e y3 ⟨rfl, n3, rfl⟩
        have hbel3 := below_drewN hbel n3
        generalize wr.drewN n3 = y3 at *
        rw [(sameP_iff l l).2 rfl]
        clear hbel hpr hp1r
        go_wp2_with fail
        refine (awake10_c _).mono ?_
        rintro e w6 ⟨rfl, hb6⟩
        go_wp2_with fail
        go_ret
        exact ⟨rfl, hbel3.trans (hb6.mono hbel3.size)⟩

set_option maxRecDepth 100000 in
set_option maxHeartbeats 4000000 in
theorem pads_ok (ao : Option Addr) (b o cap : Nat) (l : List Ins) (N : Nat) (w : World) (hp : ProgIn w ao b o l) (hlen : l.length ≤ 2932031007402) (hnil : ao = none → cap = 0) (hgv : goodP 4000 2000000 l = true) (h : N ≤ 1000) (h2 : (l.length : Int) + N ≤ 4000) :
    Calls Try.prog 12 #[.slice ao l.length cap, .int .i64 N] w fun e w' => e = .returned (.bool true) ∧ Below w.heap.size w w' := by
  have hni : (N : Int) ≤ 1000 := by omega
  have hn0 : (0 : Int) ≤ (N : Int) := by omega
  go_enter Try.func12, Try.ntmps12
  go_wp2_with fail
  have hbx := (Below.refl w.heap.size w).alloc (Nat.le_refl _) (.cells #[.slice ao l.length cap] 43 (0, 0))
  have hpx := hp.below hbx
  have hcx : (w.alloc (.cells #[.slice ao l.length cap] 43 (0, 0))).cell? ⟨w.heap.size, 0, none⟩ = some (.slice ao l.length cap) := cell_of_block (heap_alloc_new _ _) 0
  generalize w.alloc (.cells #[.slice ao l.length cap] 43 (0, 0)) = wx at *
  refine (small_any 2100000 w.heap.size 1 1 _ (by decide) (fun i hi => by
    obtain rfl : i = 0 := by omega
    exact ⟨ao, b, o, cap, l, hcx, hpx, hlen⟩)).mono ?_
  rintro e wy ⟨⟨v, rfl⟩, rfl⟩
  clear hcx
  cases v with
  | false =>
    go_wp2_with fail
    refine (awake10_c _).mono ?_
    rintro e w6 ⟨rfl, hb6⟩
    go_wp2_with fail
    go_ret
    exact ⟨rfl, hbx.trans (hb6.mono hbx.size)⟩
  | true =>
    go_wp2_with fail
    refine (r02_Twin_c ao b o cap l _ hpx hlen hnil).mono ?_
    rintro e w2 ⟨⟨ao1, cap1, rfl, hown1⟩, hb2⟩
    obtain ⟨b1, hp1, _⟩ := hown1.progIn hpx.sz
    have hp2 := hpx.below hb2
    have hbel2 := hbx.trans (hb2.mono hbx.size)
    clear hbx hb2 hpx hp
    go_wp2_with fail
    have hbel3 := hbel2.alloc hbel2.size (.cells #[] 57)
    have hp3 := hp2.below ((Below.refl _ w2).alloc (Nat.le_refl _) (.cells #[] 57))
    have hp13 := hp1.below ((Below.refl _ w2).alloc (Nat.le_refl _) (.cells #[] 57))
    generalize w2.alloc (.cells #[] 57) = w3 at *
    generalize w2.heap.size = D at *
    refine (valid2_c ao1 b1 0 cap1 l _ hp13).mono ?_
    rintro e w4 ⟨rfl, hb4⟩
    have hbel4 := hbel3.trans (hb4.mono hbel3.size)
    have hp4 := hp3.below hb4
    have hp14 := hp13.below hb4
    have hB4 := hbel4.size
    have hln1 : ao1 = none → cap1 = 0 := by
      intro e
      subst e
      rcases hown1.2 with ⟨h0, _⟩ | ⟨g', cap', cur, hv, _⟩
      · simp only [Value.slice.injEq] at h0; exact h0.2.2
      · simp at hv
    clear hbel2 hp2 hp1 hbel3 hp3 hp13 hb4 hown1
    rw [hgv]
    go_wp2_with fail
    refine (pad10_c ao1 b1 0 cap1 l N _ hp14 (by omega) hln1 (by omega)).mono ?_
    rintro e w5 ⟨⟨aod, capd, rfl, hownd⟩, hb5⟩
    have hszd : ∀ x ∈ padP l N, x.tree.size ≤ 140737488351232 := by
      intro x hx
      unfold padP at hx
      rcases List.mem_append.1 hx with h | h
      · exact hp4.sz x h
      · have := (List.mem_replicate.1 h).2
        subst this; decide
    obtain ⟨bd, hpd, _⟩ := hownd.progIn hszd
    have hp5 := hp4.below hb5
    have hp15 := hp14.below hb5
    have hbel5 := hbel4.trans (hb5.mono hB4)
    have hB5 := hbel5.size
    have Hpl := Lib.hid (padP_len l N)
    clear hp4 hp14 hbel4 hb5 hownd hB4
    go_wp2_with fail
    go_loopw [8] (fun i wr => ∃ k : Nat, k ≤ 2 ∧ i = .int .i64 k ∧ ProgIn wr ao b o l ∧ ProgIn wr ao1 b1 0 l ∧ ProgIn wr aod bd 0 (padP l N) ∧ Below w.heap.size w wr ∧ w.heap.size ≤ wr.heap.size) (fun i _ => 2 - (intOf i).toNat)
    case atStart => exact ⟨0, by omega, rfl, hp5, hp15, hpd, hbel5, hB5⟩
    case round =>
      obtain ⟨k, hk, rfl, hpr, hp1r, hpdr, hbel, hBw⟩ := hrel
      clear hp5 hp15 hbel5 hB5 hpd
      by_cases hlt : (k : Int) < 2
      · go_wp2_with fail
        refine (pad_yes ao b o cap l N _ hpr hnil hgv (by omega) (by omega)).mono ?_
        rintro e y1 ⟨⟨g, rfl, hq⟩, hy1⟩
        obtain ⟨bq, hpq, _⟩ := (hq.own (by have := Hpl.out; omega)).progIn hszd
        have hpr1 := hpr.below hy1
        have hp1r1 := hp1r.below hy1
        have hpdr1 := hpdr.below hy1
        have hbel1 := hbel.trans (hy1.mono hBw)
        have HL := Lib.hid (And.intro hpr.lt (And.intro hp1r.lt hpdr.lt))
        have hgB : w.heap.size ≤ g := Nat.le_trans hBw hq.1
        rw [← Hpl.out]
        have hpl5 : (padP l N).length ≤ 5000 := by have := Hpl.out; omega
        have hWg := hq.1
        have hbw1 := hy1
        clear hpr hp1r hbel hy1 hpdr
        go_wp2_with fail
        refine (same_c (some ⟨g, 0, none⟩) aod bq 0 bd 0 (padP l N).length capd (padP l N) (padP l N) _ hpq hpdr1 (by omega) (by omega)).mono ?_
        rintro e y2 ⟨rfl, n2, rfl⟩
        have hpr2 := hpr1.below (below_drewN (Below.refl _ _) n2)
        have hp1r2 := hp1r1.below (below_drewN (Below.refl _ _) n2)
        have hpdr2 := hpdr1.below (below_drewN (Below.refl _ _) n2)
        have hbel2 := below_drewN hbel1 n2
        have hq2 : BlkProg (y1.drewN n2) wr.heap.size g (padP l N) := hq
        have hb02 := below_drewN hbw1 n2
        generalize y1.drewN n2 = y2 at *
        rw [(sameP_iff (padP l N) (padP l N)).2 rfl]
        clear hpr1 hp1r1 hbel1 hpdr1 hpq hq hbw1
        go_wp2_with fail
        refine (same_c ao ao1 b o b1 0 cap cap1 l l _ hpr2 hp1r2 (by omega) (by omega)).mono ?_
        rintro e y3 ⟨rfl, n3, rfl⟩
        have hpr3 := hpr2.below (below_drewN (Below.refl _ _) n3)
        have hp1r3 := hp1r2.below (below_drewN (Below.refl _ _) n3)
        have hpdr3 := hpdr2.below (below_drewN (Below.refl _ _) n3)
        have hbel3 := below_drewN hbel2 n3
        have hq3 : BlkProg (y2.drewN n3) wr.heap.size g (padP l N) := hq2
        have hb03 := below_drewN hb02 n3
        generalize y2.drewN n3 = y3 at *
        rw [(sameP_iff l l).2 rfl]
        have hB3 := hbel3.size
        clear hpr2 hp1r2 hbel2 hpdr2 hq2 hb02
        have hlG : l ≠ [] → b < wr.heap.size := HL.out.1
        have hl1G : l ≠ [] → b1 < wr.heap.size := HL.out.2.1
        have hldG : padP l N ≠ [] → bd < wr.heap.size := HL.out.2.2
        generalize wr.heap.size = G at *
        go_wp2_with fail
        go_loopw [11] (fun i wr3 => ∃ (j : Nat) (L : List Ins), j ≤ (padP l N).length ∧ i = .int .i64 j ∧ L.length = (padP l N).length ∧ BlkProg wr3 G g L ∧ Below w.heap.size w wr3 ∧ ProgIn wr3 ao b o l ∧ ProgIn wr3 ao1 b1 0 l ∧ ProgIn wr3 aod bd 0 (padP l N)) (fun i _ => (padP l N).length - (intOf i).toNat)
        case atStart => exact ⟨0, padP l N, by omega, rfl, rfl, hq3, hbel3, hpr3, hp1r3, hpdr3⟩
        case round =>
          obtain ⟨j, L, hj, rfl, hLM, hqr, hbelr, hprr, hp1rr, hpdrr⟩ := hrel
          clear hq3 hbel3 hpr3 hp1r3 hpdr3
          have HLM := Lib.hid hLM
          by_cases hjl : (j : Int) < ((padP l N).length : Int)
          · have hjL : j < L.length := by omega
            have c0 := hqr.cell j 0 hjL (by omega)
            have c1 := hqr.cell j 1 hjL (by omega)
            have c2 := hqr.cell j 2 hjL (by omega)
            have c3 := hqr.cell j 3 hjL (by omega)
            have c4 := hqr.cell j 4 hjL (by omega)
            simp only [Ins.cells, List.getElem?_cons_zero, List.getElem?_cons_succ, Nat.add_zero] at c0 c1 c2 c3 c4
            have f0 := hqr.frozen (j * 5)
            have f1 := hqr.frozen (j * 5 + 1)
            have f2 := hqr.frozen (j * 5 + 2)
            have f3 := hqr.frozen (j * 5 + 3)
            have f4 := hqr.frozen (j * 5 + 4)
            have hst := hqr.store5 j ⟨-1, 0, 0, 0, ⟨#[]⟩⟩ hjL
            have hgG := hqr.1
            have hbG : ∀ (v0 v1 v2 v3 v4 : Value), Below G wr (((((wr.setCell ⟨g, j * 5, none⟩ v0).setCell ⟨g, j * 5 + 1, none⟩ v1).setCell ⟨g, j * 5 + 2, none⟩ v2).setCell ⟨g, j * 5 + 3, none⟩ v3).setCell ⟨g, j * 5 + 4, none⟩ v4) := fun v0 v1 v2 v3 v4 =>
              (((((Below.refl G wr).setCell (p := ⟨g, _, none⟩) hgG _).setCell (p := ⟨g, _, none⟩) hgG _).setCell (p := ⟨g, _, none⟩) hgG _).setCell (p := ⟨g, _, none⟩) hgG _).setCell (p := ⟨g, _, none⟩) hgG _
            have hb5 := hbG (.int .i64 (-1)) (.int .i64 0) (.int .i64 0) (.int .i64 0) (.string ⟨#[]⟩)
            have hp5 := hprr.belowG hb5 hlG
            have hp15 := hp1rr.belowG hb5 hl1G
            have hpd5 := hpdrr.belowG hb5 hldG
            have hbel5 := hbelr.trans (hb5.mono hBw)
            have HH := Lib.hid (And.intro hst (And.intro hbel5 (And.intro hp5 (And.intro hp15 hpd5))))
            generalize L.getD j default = z at *
            clear hst hb5 hbG hp5 hp15 hpd5 hbel5 hqr hprr hp1rr hpdrr hbelr hLM
            go_wp2_with fail
            go_roundw
            case rel => exact ⟨j + 1, L.set j ⟨-1, 0, 0, 0, ⟨#[]⟩⟩, by omega, by go_num, by rw [List.length_set]; exact HLM.out, HH.out.1, HH.out.2.1, HH.out.2.2.1, HH.out.2.2.2.1, HH.out.2.2.2.2⟩
            case measure => simp [intOf] <;> omega
          · obtain rfl : j = (padP l N).length := by omega
            clear hqr hLM
            go_wp2_with fail
            go_roundw
            case rel => exact ⟨k + 1, by omega, by go_num, hprr, hp1rr, hpdrr, hbelr, hbelr.size⟩
            case measure => simp [intOf] <;> omega
      · obtain rfl : k = 2 := by omega
        go_wp2_with fail
        refine (same_c ao ao1 b o b1 0 cap cap1 l l _ hpr hp1r (by omega) (by omega)).mono ?_
        rintro e y3 ⟨rfl, n3, rfl⟩
        have hbel3 := below_drewN hbel n3
        generalize wr.drewN n3 = y3 at *
        rw [(sameP_iff l l).2 rfl]
        clear hbel hpr hp1r hpdr
        go_wp2_with fail
        refine (awake10_c _).mono ?_
        rintro e w6 ⟨rfl, hb6⟩
        go_wp2_with fail
        go_ret
        exact ⟨rfl, hbel3.trans (hb6.mono hbel3.size)⟩


theorem pads_all (ao : Option Addr) (b o cap : Nat) (l : List Ins) (n : Int) (w : World) (hp : ProgIn w ao b o l) (hlen : l.length ≤ 2932031007402) (hnil : ao = none → cap = 0) :
    Calls Try.prog 12 #[.slice ao l.length cap, .int .i64 n] w fun e w' => e = .returned (.bool true) ∧ Below w.heap.size w w' := by
  cases hg : goodP 4000 2000000 l with
  | false => exact pads_bad ao b o cap l n w hp hlen hnil hg
  | true =>
    have hl := goodP_len hg
    by_cases h1 : n < 0
    · exact pads_neg ao b o cap l n w hp hlen hnil hg h1
    · by_cases h2 : 1000 < n
      · exact pads_many ao b o cap l n w hp hlen hnil hg (by omega) h2
      · by_cases h3 : 4000 < (l.length : Int) + n
        · exact pads_long ao b o cap l n w hp hlen hnil hg (by omega) (by omega) h3
        · obtain ⟨N, rfl⟩ : ∃ N : Nat, n = (N : Int) := ⟨n.toNat, by omega⟩
          exact pads_ok ao b o cap l N w hp hlen hnil hg (by omega) (by omega)

end Go.Proofs.Ythmnbciefpkpmaa
