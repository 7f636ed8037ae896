/- The walk of the function code of narcissustop. -/
import Derived.Test.YthmnbciefpkpmaaCodeT
import Derived.Test.YthmnbciefpkpmaaIns
import Derived.Deep.RegionHeld3
import Derived.Deep.CutBlock
import Derived.Deep.DeepCutAuto
import Derived.BigQuiet
namespace Go.Proofs.Ythmnbciefpkpmaa
open Go.RowKit

theorem Tr.below {ty : TypeId} {w w' : World} {t : T} {p : Option Addr} (h : Tr ty w t p) (hb : Below w.heap.size w w') : Tr ty w' t p := Tr.keep (KeepTy.below hb) _ _ h
theorem Tr.drewN {ty : TypeId} {w : World} {t : T} {p : Option Addr} (h : Tr ty w t p) (n : Nat) : Tr ty (w.drewN n) t p := Tr.keep (KeepTy.drewN _ _ _) _ _ h

theorem codeT_drop_size : ∀ (l : List Ins) (k : Nat), (codeT (l.drop k)).size ≤ (codeT l).size
  | [], k => by simp
  | x :: l, 0 => by simp
  | x :: l, k + 1 => by
    have := codeT_drop_size l k
    simp only [List.drop_succ_cons, codeT, T.size]
    omega

theorem pair_b (p q : Option Addr) (x y : T) (w : World) (hx : Tr 171 w x p) (hy : Tr 171 w y q) (hs : x.size + y.size < 9223372036854775807) :
    Calls Try.prog 81 #[.pointer p, .pointer q] w fun e w' => (∃ r, e = .returned (.pointer r) ∧ Tr 171 w' (.node x y) r) ∧ Below w.heap.size w w' :=
  (pair_c p q x y w hx hy hs).mono fun e w' ⟨he, hw⟩ => by
    subst hw
    exact ⟨⟨_, he, ⟨_, p, q, rfl, heap_at _ _ _ rfl, Tr.keep (KeepTy.alloc _ _ _) _ _ hx, Tr.keep (KeepTy.alloc _ _ _) _ _ hy⟩⟩, (Below.refl _ _).alloc (Nat.le_refl _) _⟩

set_option maxRecDepth 100000 in
set_option maxHeartbeats 2000000 in
theorem code_c (ao : Option Addr) (b o cap : Nat) (l : List Ins) (most : Int) (w : World) (hp : ProgIn w ao b o l) (hg : goodP most 2000000 l = true) (hmost : most ≤ 4000) :
    Calls Try.prog 74 #[.slice ao l.length cap] w fun e w' => (∃ p, e = .returned (.pointer p) ∧ Tr 171 w' (codeT l) p) ∧ Below w.heap.size w w' := by
  have hlen := goodP_len hg
  have hl4 : l.length ≤ 4000 := by omega
  have Hg := Lib.hid hg
  clear hg hlen
  go_enter Try.func74, Try.ntmps74
  go_wp2_with fail
  go_loopw [3, 4] (fun c i wr => ∃ (k : Nat) (p : Option Addr), i = .int .i64 ((k : Int) - 1) ∧ c = .pointer p ∧ k ≤ l.length ∧ Tr 171 wr (codeT (l.drop k)) p ∧ Below w.heap.size w wr) (fun _ i _ => (intOf i + 1).toNat)
  case atStart => exact ⟨l.length, none, rfl, rfl, Nat.le_refl _, by simp [codeT, Tr], Below.refl _ _⟩
  case round =>
    obtain ⟨k, pc, rfl, rfl, hk, htc, hbel⟩ := hrel
    have hsize := hbel.size
    cases k with
    | zero =>
      have Htc := Lib.hid htc
      clear htc
      go_wp2_with fail
      go_ret
      exact ⟨⟨pc, rfl, by simpa using Htc.out⟩, hbel⟩
    | succ k =>
      rw [show ((k + 1 : Nat) : Int) - 1 = (k : Int) by omega]
      have hlt : k < l.length := by omega
      have hcd : codeT (l.drop k) = .node (codeI (l.getD k default)) (codeT (l.drop (k + 1))) := by rw [drop_ins l k hlt]; rfl
      have Hcd := Lib.hid hcd
      have hsz := codeT_size_good hmost Hg.out
      have hszk : (codeT (l.drop (k + 1))).size ≤ 40000000 := Nat.le_trans (codeT_drop_size l (k + 1)) hsz
      have hins := (hp.ins k hlt).below hbel (hp.lt (by intro e; subst e; simp at hlt))
      obtain rfl := hp.at_ (by intro e; subst e; simp at hlt)
      obtain ⟨hok, htz⟩ := goodP_ins Hg.out k hlt
      have hIsz := codeI_size hok (by omega) (by omega) (by omega)
      generalize l.getD k default = z at *
      generalize codeT (l.drop (k + 1)) = tc at *
      obtain ⟨c0, c1, c2, c3, c4⟩ := hins
      obtain ⟨⟨na, hna, hna2⟩, hcases⟩ := insOk_cases hok
      have ha31 : z.a ≤ 31 := by omega
      clear hcd hsz hok hna hna2
      go_upto_block 2 with fail
      go_cut [6] (fun rr wc => ∃ pr : Option Addr, rr = .pointer pr ∧ Tr 171 wc (codeR z) pr ∧ Below (wr.heap.size + 1) (wr.alloc (.cells #[.int .i64 z.op, .int .i64 z.a, .int .i64 z.b, .int .i64 z.c, .string z.tree] 57)) wc)
      case first =>
        clear htc hbel Hcd hszk
        generalize hwa : wr.alloc (.cells #[.int .i64 z.op, .int .i64 z.a, .int .i64 z.b, .int .i64 z.c, .string z.tree] 57) = wa
        have e2 : wa.cell? ⟨wr.heap.size, 2, none⟩ = some (.int .i64 z.b) := by rw [← hwa]; exact cell_of_block (heap_alloc_new _ _) 2
        have e3 : wa.cell? ⟨wr.heap.size, 3, none⟩ = some (.int .i64 z.c) := by rw [← hwa]; exact cell_of_block (heap_alloc_new _ _) 3
        have e4 : wa.cell? ⟨wr.heap.size, 4, none⟩ = some (.string z.tree) := by rw [← hwa]; exact cell_of_block (heap_alloc_new _ _) 4
        have hws : wr.heap.size + 1 ≤ wa.heap.size := by rw [← hwa]; simp
        have hbx : wr.heap.size < wa.heap.size := by omega
        have Hwa := Lib.hid hwa
        clear hwa
        rcases hcases with ⟨h0, ht⟩ | ⟨h134, hb⟩ | ⟨h2, hb, hc⟩ | ⟨h5, hb1, hb2⟩
        · have o0 : (z.op == 0) = true := by simp [h0]
          have S1 := Lib.hid (show codeR z = setT z by simp [codeR, h0])
          clear h0
          go_wp2_with (go_at_call 68; refine (grow_yes z.tree 2000000 (setT z) _ (by omega) ht).mono ?_; rintro e w2 ⟨p, rfl, htr, hb2⟩)
          go_meet
          exact ⟨p, rfl, by rw [S1.out]; exact htr, by rw [Hwa.out]; exact hb2.mono hws⟩
        · obtain ⟨nb, hnb, hnb2⟩ := hb
          have o0 : (z.op == 0) = false := by rcases h134 with h | h | h <;> simp [h]
          have o2 : (z.op == 2) = false := by rcases h134 with h | h | h <;> simp [h]
          have o5 : (z.op == 5) = false := by rcases h134 with h | h | h <;> simp [h]
          have S1 := Lib.hid (show codeR z = numT z.b.toNat by rcases h134 with h | h | h <;> simp [codeR, h])
          have hbl : z.b ≤ 1000000 := by omega
          clear h134 hnb hnb2
          go_wp2_with (go_at_call 82; refine (number_c z.b _ hbl).mono ?_; rintro e w2 ⟨⟨p, rfl, htr⟩, hb2⟩)
          go_meet
          exact ⟨p, rfl, by rw [S1.out]; exact htr, by rw [Hwa.out]; exact hb2.mono hws⟩
        · obtain ⟨nb, hnb, hnb2⟩ := hb
          obtain ⟨nc, hnc, hnc2⟩ := hc
          have o0 : (z.op == 0) = false := by simp [h2]
          have o2 : (z.op == 2) = true := by simp [h2]
          have S1 := Lib.hid (show codeR z = .node (numT z.b.toNat) (numT z.c.toNat) by simp [codeR, h2])
          have hbl : z.b ≤ 1000000 := by omega
          have hcl : z.c ≤ 1000000 := by omega
          have hsb : (numT z.b.toNat).size ≤ 2000001 := by rw [numT_size]; omega
          have hsc : (numT z.c.toNat).size ≤ 2000001 := by rw [numT_size]; omega
          have hz1 : (numT z.b.toNat).size + (numT z.c.toNat).size < 9223372036854775807 := by omega
          clear h2 hnb hnb2 hnc hnc2 hsb hsc
          generalize wr.heap.size = bx at *
          go_wp2_with fail
          go_region_held3 (fun w' => w'.cell? ⟨bx, 2, none⟩ = some (.int .i64 z.b) ∧ w'.cell? ⟨bx, 3, none⟩ = some (.int .i64 z.c) ∧ bx < w'.heap.size)
            (first | go_keep | (go_simp))
            (first
              | (go_at_call_of 82 (Value.int .i64 z.b); refine (number_c z.b _ hbl).mono ?_; rintro e w1 ⟨⟨p1, rfl, ht1⟩, hb1⟩; have g10 := (hb1.cell (p := ⟨bx, 2, none⟩) hbx).trans e2; have g11 := (hb1.cell (p := ⟨bx, 3, none⟩) hbx).trans e3; have g12 := Nat.lt_of_lt_of_le hbx hb1.size; have hB1 : Below wa.heap.size wa w1 := ((Below.refl _ _).drew).trans hb1)
              | (go_at_call_of 82 (Value.int .i64 z.c); refine (number_c z.c _ hcl).mono ?_; rintro e w2 ⟨⟨p2, rfl, ht2⟩, hb2⟩; have g20 := (hb2.cell (p := ⟨bx, 2, none⟩) g12).trans g10; have g21 := (hb2.cell (p := ⟨bx, 3, none⟩) g12).trans g11; have g22 := Nat.lt_of_lt_of_le g12 hb2.size)
              | (go_at_call_of 81 (Value.pointer p1); refine (pair_b p1 p2 (numT z.b.toNat) (numT z.c.toNat) _ (ht1.below hb2) ht2 hz1).mono ?_; rintro e w3 ⟨⟨p3, rfl, ht3⟩, hb3⟩; have g30 := (hb3.cell (p := ⟨bx, 2, none⟩) g22).trans g20; have g31 := (hb3.cell (p := ⟨bx, 3, none⟩) g22).trans g21; have g32 := Nat.lt_of_lt_of_le g22 hb3.size))
          all_goals (
            go_wp2_with fail
            go_meet
            exact ⟨p3, rfl, by rw [S1.out]; exact ht3, by rw [Hwa.out]; exact ((hB1.trans (hb2.mono hB1.size)).trans (hb3.mono (Nat.le_trans hB1.size hb2.size))).mono hws⟩)
        · have o0 : (z.op == 0) = false := by simp [h5]
          have o2 : (z.op == 2) = false := by simp [h5]
          have o5 : (z.op == 5) = true := by simp [h5]
          by_cases hneg : z.b < 0
          · have S1 := Lib.hid (show codeR z = .node (numT 1) (numT (-z.b).toNat) by simp [codeR, h5, hneg])
            have hbl : -z.b ≤ 1000000 := by omega
            have hwr : IntKind.i64.wrap (-z.b) = -z.b := IntWalk.i64_in _ (by omega)
            have hsb : (numT (-z.b).toNat).size ≤ 2000001 := by rw [numT_size]; omega
            have hs1 : (numT 1).size = 3 := rfl
            have hz1 : (numT 1).size + (numT (-z.b).toNat).size < 9223372036854775807 := by omega
            have hs0 : T.nil.size + (numT z.b.toNat).size < 9223372036854775807 := by rw [numT_size]; have : T.nil.size = 1 := rfl; omega
            have hbl0 : z.b ≤ 1000000 := by omega
            clear h5 hsb hs1
            generalize wr.heap.size = bx at *
            go_wp2_with (first
              | (go_at_call 82; refine (number_c z.b _ hbl0).mono ?_; rintro e v1 ⟨⟨q1, rfl, hq1⟩, hc1⟩)
              | (go_at_call 81; refine (pair_b none q1 .nil (numT z.b.toNat) _ rfl hq1 hs0).mono ?_; rintro e v2 ⟨⟨q2, rfl, hq2⟩, hc2⟩; have e2 := (hc2.cell (p := ⟨bx, 2, none⟩) (Nat.lt_of_lt_of_le hbx hc1.size)).trans ((hc1.cell (p := ⟨bx, 2, none⟩) hbx).trans e2); have hbx := Nat.lt_of_lt_of_le (Nat.lt_of_lt_of_le hbx hc1.size) hc2.size))
            have hws2 : Below wa.heap.size wa v2 := hc1.trans (hc2.mono hc1.size)
            go_region_held3 (fun w' => w'.cell? ⟨bx, 2, none⟩ = some (.int .i64 z.b) ∧ bx < w'.heap.size)
              (first | go_keep | (go_simp))
              (first
                | (go_at_call_of 82 (Value.int .i64 1); refine (number_c 1 _ (by omega)).mono ?_; rintro e w1 ⟨⟨p1, rfl, ht1⟩, hb1⟩; have g10 := (hb1.cell (p := ⟨bx, 2, none⟩) hbx).trans e2; have g12 := Nat.lt_of_lt_of_le hbx hb1.size; have hB1 : Below v2.heap.size v2 w1 := ((Below.refl _ _).drew).trans hb1)
                | (go_at_call_of 82 (Value.int .i64 (-z.b)); refine (number_c (-z.b) _ hbl).mono ?_; rintro e w2 ⟨⟨p2, rfl, ht2⟩, hb2⟩; have g20 := (hb2.cell (p := ⟨bx, 2, none⟩) g12).trans g10; have g22 := Nat.lt_of_lt_of_le g12 hb2.size)
                | (go_at_call_of 81 (Value.pointer p1); refine (pair_b p1 p2 (numT 1) (numT (-z.b).toNat) _ (ht1.below hb2) ht2 hz1).mono ?_; rintro e w3 ⟨⟨p3, rfl, ht3⟩, hb3⟩; have g30 := (hb3.cell (p := ⟨bx, 2, none⟩) g22).trans g20; have g32 := Nat.lt_of_lt_of_le g22 hb3.size))
            all_goals (
              go_wp2_with fail
              go_meet
              exact ⟨p3, rfl, by rw [S1.out]; exact ht3, by rw [Hwa.out]; exact (hws2.trans (((hB1.trans (hb2.mono hB1.size)).trans (hb3.mono (Nat.le_trans hB1.size hb2.size))).mono hws2.size)).mono hws⟩)
          · have S1 := Lib.hid (show codeR z = .node .nil (numT z.b.toNat) by simp [codeR, h5, hneg])
            have hpos : 0 ≤ z.b := by omega
            have hbl : z.b ≤ 1000000 := by omega
            have hsb : (numT z.b.toNat).size ≤ 2000001 := by rw [numT_size]; omega
            have hs1 : T.nil.size = 1 := rfl
            have hz1 : T.nil.size + (numT z.b.toNat).size < 9223372036854775807 := by omega
            clear h5 hneg hsb hs1
            generalize wr.heap.size = bx at *
            go_wp2_with (first
              | (go_at_call 82; refine (number_c z.b _ hbl).mono ?_; rintro e w1 ⟨⟨p1, rfl, ht1⟩, hb1⟩)
              | (go_at_call 81; refine (pair_b none p1 .nil (numT z.b.toNat) _ rfl ht1 hz1).mono ?_; rintro e w2 ⟨⟨p2, rfl, ht2⟩, hb2⟩; have e2 := (hb2.cell (p := ⟨bx, 2, none⟩) (Nat.lt_of_lt_of_le hbx hb1.size)).trans ((hb1.cell (p := ⟨bx, 2, none⟩) hbx).trans e2)))
            go_meet
            exact ⟨p2, rfl, by rw [S1.out]; exact ht2, by rw [Hwa.out]; exact (hb1.trans (hb2.mono hb1.size)).mono hws⟩
      case rest =>
        obtain ⟨pr, rfl, htr, hbc⟩ := hcut
        have hbs : wr.heap.size + 1 ≤ wc.heap.size := by have := hbc.size; simpa using this
        have e0 : wc.cell? ⟨wr.heap.size, 0, none⟩ = some (.int .i64 z.op) := (hbc.cell (by simp)).trans (cell_of_block (heap_alloc_new _ _) 0)
        have e1 : wc.cell? ⟨wr.heap.size, 1, none⟩ = some (.int .i64 z.a) := (hbc.cell (by simp)).trans (cell_of_block (heap_alloc_new _ _) 1)
        have hbr : Below w.heap.size w wc := (hbel.alloc hsize _).trans (hbc.mono (by omega))
        have htc2 : Tr 171 wc tc pc := by
          have h1 : Below wr.heap.size wr (wr.alloc (.cells #[.int .i64 z.op, .int .i64 z.a, .int .i64 z.b, .int .i64 z.c, .string z.tree] 57)) := (Below.refl _ _).alloc (Nat.le_refl _) _
          exact Tr.below htc (h1.trans (hbc.mono (by omega)))
        clear hbc htc hbel
        generalize wr.heap.size = bx at *
        go_wp2_with fail
        have hop1 : z.op ≤ 1000000 := by rcases hcases with ⟨h, _⟩ | ⟨h, _⟩ | ⟨h, _⟩ | ⟨h, _⟩ <;> omega
        have ha1 : z.a ≤ 1000000 := by omega
        have hbx : bx < wc.heap.size := by omega
        have hz1 : (numT z.op.toNat).size + (T.node (numT z.a.toNat) (codeR z)).size < 9223372036854775807 := by
          have : (codeI z).size = 1 + (numT z.op.toNat).size + (T.node (numT z.a.toNat) (codeR z)).size := rfl
          omega
        have hz2 : (codeI z).size + tc.size < 9223372036854775807 := by omega
        have hs3 : (codeR z).size ≤ 100000000 := by
          have : (codeI z).size = 1 + (numT z.op.toNat).size + (1 + (numT z.a.toNat).size + (codeR z).size) := rfl
          omega
        have hs1 : (numT z.op.toNat).size ≤ 2000001 := by rw [numT_size]; omega
        have hs2 : (numT z.a.toNat).size ≤ 2000001 := by rw [numT_size]; omega
        go_region_held3 (fun w' => w'.cell? ⟨bx, 0, none⟩ = some (.int .i64 z.op) ∧ w'.cell? ⟨bx, 1, none⟩ = some (.int .i64 z.a) ∧ bx < w'.heap.size)
          (first | go_keep | (go_simp))
          (first
            | (go_at_call_of 82 (Value.int .i64 z.op); refine (number_c z.op _ hop1).mono ?_; rintro e w1 ⟨⟨p1, rfl, ht1⟩, hb1⟩; have g10 := (hb1.cell (p := ⟨bx, 0, none⟩) hbx).trans e0; have g11 := (hb1.cell (p := ⟨bx, 1, none⟩) hbx).trans e1; have g12 := Nat.lt_of_lt_of_le hbx hb1.size; have hB1 : Below wc.heap.size wc w1 := ((Below.refl _ _).drew).trans hb1)
            | (go_at_call_of 82 (Value.int .i64 z.a); refine (number_c z.a _ ha1).mono ?_; rintro e w2 ⟨⟨p2, rfl, ht2⟩, hb2⟩; have g20 := (hb2.cell (p := ⟨bx, 0, none⟩) g12).trans g10; have g21 := (hb2.cell (p := ⟨bx, 1, none⟩) g12).trans g11; have g22 := Nat.lt_of_lt_of_le g12 hb2.size)
            | (go_at_call_of 81 (Value.pointer p2); refine (pair_b p2 pr (numT z.a.toNat) (codeR z) _ ht2 ((htr.below hB1).below hb2) (by omega)).mono ?_; rintro e w3 ⟨⟨p3, rfl, ht3⟩, hb3⟩; have g30 := (hb3.cell (p := ⟨bx, 0, none⟩) g22).trans g20; have g31 := (hb3.cell (p := ⟨bx, 1, none⟩) g22).trans g21; have g32 := Nat.lt_of_lt_of_le g22 hb3.size)
            | (go_at_call_of 81 (Value.pointer p1); refine (pair_b p1 p3 (numT z.op.toNat) (.node (numT z.a.toNat) (codeR z)) _ ((ht1.below hb2).below hb3) ht3 hz1).mono ?_; rintro e w4 ⟨⟨p4, rfl, ht4⟩, hb4⟩; have g40 := (hb4.cell (p := ⟨bx, 0, none⟩) g32).trans g30; have g41 := (hb4.cell (p := ⟨bx, 1, none⟩) g32).trans g31; have g42 := Nat.lt_of_lt_of_le g32 hb4.size)
            | (go_at_call_of 81 (Value.pointer p4); refine (pair_b p4 pc (codeI z) tc _ ht4 ((((htc2.below hB1).below hb2).below hb3).below hb4) hz2).mono ?_; rintro e w5 ⟨⟨p5, rfl, ht5⟩, hb5⟩; have g50 := (hb5.cell (p := ⟨bx, 0, none⟩) g42).trans g40; have g51 := (hb5.cell (p := ⟨bx, 1, none⟩) g42).trans g41; have g52 := Nat.lt_of_lt_of_le g42 hb5.size))
        all_goals (
          clear hz1 hz2 hs1 hs2
          go_wp2_with fail
          go_roundw
          case rel => exact ⟨k, p5, by go_num, rfl, by omega, by rw [Hcd.out]; exact ht5, hbr.trans ((hB1.mono hbr.size).trans ((hb2.mono (Nat.le_trans hbr.size hB1.size)).trans ((hb3.mono (Nat.le_trans (Nat.le_trans hbr.size hB1.size) hb2.size)).trans ((hb4.mono (Nat.le_trans (Nat.le_trans (Nat.le_trans hbr.size hB1.size) hb2.size) hb3.size)).trans (hb5.mono (Nat.le_trans (Nat.le_trans (Nat.le_trans (Nat.le_trans hbr.size hB1.size) hb2.size) hb3.size) hb4.size))))))⟩
          case measure => simp [intOf] <;> omega)

end Go.Proofs.Ythmnbciefpkpmaa
