/- The walks of the closures that read the fields of an instruction out of a tree. -/
import Derived.Test.YthmnbciefpkpmaaParts
import Derived.Test.YthmnbciefpkpmaaSame
namespace Go.Proofs.Ythmnbciefpkpmaa
open Go.RowKit

/-- an instruction in a block of its own -/
def InsBlk (w : World) (g : Nat) (x : Ins) : Prop := w.heap[g]? = some (.cells #[.int .i64 x.op, .int .i64 x.a, .int .i64 x.b, .int .i64 x.c, .string x.tree] 57 (0, 0))

theorem InsBlk.cells {w : World} {g : Nat} {x : Ins} (h : InsBlk w g x) :
    w.cell? ⟨g, 0, none⟩ = some (.int .i64 x.op) ∧ w.cell? ⟨g, 1, none⟩ = some (.int .i64 x.a) ∧ w.cell? ⟨g, 2, none⟩ = some (.int .i64 x.b) ∧ w.cell? ⟨g, 3, none⟩ = some (.int .i64 x.c) ∧ w.cell? ⟨g, 4, none⟩ = some (.string x.tree) :=
  ⟨cell_of_block h 0, cell_of_block h 1, cell_of_block h 2, cell_of_block h 3, cell_of_block h 4⟩

theorem InsBlk.frozen {w : World} {g : Nat} {x : Ins} (h : InsBlk w g x) (i : Nat) : w.frozen? ⟨g, i, none⟩ = false := by
  simp [World.frozen?, show w.heap[g]? = _ from h]

theorem InsBlk.below {B : Nat} {w w' : World} {g : Nat} {x : Ins} (h : InsBlk w g x) (hb : Below B w w') (hg : g < B) : InsBlk w' g x := by
  unfold InsBlk; rw [hb.block g hg]; exact h

theorem InsBlk.setA {w : World} {g : Nat} {x : Ins} (h : InsBlk w g x) (v : Int) : InsBlk (w.setCell ⟨g, 1, none⟩ (.int .i64 v)) g { x with a := v } := by
  simp [InsBlk, World.setCell, Array.getElem?_modify, show w.heap[g]? = _ from h]
theorem InsBlk.setB {w : World} {g : Nat} {x : Ins} (h : InsBlk w g x) (v : Int) : InsBlk (w.setCell ⟨g, 2, none⟩ (.int .i64 v)) g { x with b := v } := by
  simp [InsBlk, World.setCell, Array.getElem?_modify, show w.heap[g]? = _ from h]
theorem InsBlk.setC {w : World} {g : Nat} {x : Ins} (h : InsBlk w g x) (v : Int) : InsBlk (w.setCell ⟨g, 3, none⟩ (.int .i64 v)) g { x with c := v } := by
  simp [InsBlk, World.setCell, Array.getElem?_modify, show w.heap[g]? = _ from h]
theorem InsBlk.setT {w : World} {g : Nat} {x : Ins} (h : InsBlk w g x) (v : ByteArray) : InsBlk (w.setCell ⟨g, 4, none⟩ (.string v)) g { x with tree := v } := by
  simp [InsBlk, World.setCell, Array.getElem?_modify, show w.heap[g]? = _ from h]

def GetPost (g : Nat) (w : World) (x : Ins) (ok : Bool) (e : Ending) (w' : World) : Prop := e = .returned (.bool ok) ∧ InsBlk w' g x ∧ Below g w w'

set_option maxRecDepth 100000 in
theorem get_set_c (g : Nat) (n : Int) (o : Option T) (w : World) (hx : InsBlk w g ⟨n, 0, 0, 0, ⟨#[]⟩⟩) (ho : osz o ≤ 2000000) :
    Calls Try.prog 151 #[.pointer (some ⟨g, 0, none⟩), .string (sOf o)] w (GetPost g w ⟨n, (getSet o).1.a, 0, 0, (getSet o).1.tree⟩ (getSet o).2) := by
  simp only [getSet]
  have hp := fun w => cpair_c o w ho
  have hv := fun w => value_c (prA o) w (osz_prA ho)
  have hlt : g < w.heap.size := lt_of_block hx
  generalize sOf (prB o) = sb at *
  generalize sOf (prA o) = sa at *
  generalize sOf o = s at *
  generalize numV (prA o) = na at *
  generalize numB (prA o) = ba at *
  generalize prIs o = bi at *
  have Hp := Lib.hid hp
  have Hv := Lib.hid hv
  clear hp hv
  go_enter Try.func151, Try.ntmps151
  go_wp2_with fail
  refine (Hp.out _).mono ?_
  rintro e w1 ⟨rfl, hb1⟩
  go_wp2_with fail
  refine (Hv.out _).mono ?_
  rintro e w2 ⟨rfl, hb2⟩
  have hx2 := (hx.below hb1 hlt).below hb2 (Nat.lt_of_lt_of_le hlt hb1.size)
  obtain ⟨c0, c1, c2, c3, c4⟩ := hx2.cells
  have f1 := hx2.frozen 1
  have f4 := hx2.frozen 4
  have hbb := (hb1.mono (Nat.le_of_lt hlt)).trans (hb2.mono (Nat.le_of_lt (Nat.lt_of_lt_of_le hlt hb1.size)))
  have Hx := (hx2.setA na).setT sb
  have Hb := (hbb.setCell (p := ⟨g, 1, none⟩) (Nat.le_refl _) (.int .i64 na)).setCell (p := ⟨g, 4, none⟩) (Nat.le_refl _) (.string sb)
  have HH := Lib.hid (And.intro Hx Hb)
  clear Hx Hb hx hb1 hb2 hbb
  cases bi with
  | false =>
    go_wp2_with fail
    go_ret
    exact ⟨rfl, HH.out.1, HH.out.2⟩
  | true =>
    go_wp2_with fail
    go_ret
    exact ⟨rfl, HH.out.1, HH.out.2⟩

set_option maxRecDepth 100000 in
theorem get_regs_c (g : Nat) (n : Int) (o : Option T) (w : World) (hx : InsBlk w g ⟨n, 0, 0, 0, ⟨#[]⟩⟩) (ho : osz o ≤ 2000000) :
    Calls Try.prog 191 #[.pointer (some ⟨g, 0, none⟩), .string (sOf o)] w (GetPost g w (getRegs n o).1 (getRegs n o).2) := by
  simp only [getRegs]
  have hp := fun w => cpair_c o w ho
  have hv := fun w => value_c (prA o) w (osz_prA ho)
  have hv2 := fun w => value_c (prB o) w (osz_prB ho)
  have hlt : g < w.heap.size := lt_of_block hx
  generalize sOf (prB o) = sb at *
  generalize sOf (prA o) = sa at *
  generalize sOf o = s at *
  generalize numV (prA o) = na at *
  generalize numB (prA o) = ba at *
  generalize numV (prB o) = nb at *
  generalize numB (prB o) = bb at *
  generalize prIs o = bi at *
  have Hp := Lib.hid hp
  have Hv := Lib.hid hv
  have Hv2 := Lib.hid hv2
  clear hp hv hv2
  go_enter Try.func191, Try.ntmps191
  go_wp2_with fail
  refine (Hp.out _).mono ?_
  rintro e w1 ⟨rfl, hb1⟩
  have hl1 := Nat.lt_of_lt_of_le hlt hb1.size
  go_wp2_with fail
  refine (Hv.out _).mono ?_
  rintro e w2 ⟨rfl, hb2⟩
  have hl2 := Nat.lt_of_lt_of_le hl1 hb2.size
  go_wp2_with fail
  refine (Hv2.out _).mono ?_
  rintro e w3 ⟨rfl, hb3⟩
  have hx2 := ((hx.below hb1 hlt).below hb2 hl1).below hb3 hl2
  obtain ⟨c0, c1, c2, c3, c4⟩ := hx2.cells
  have f1 := hx2.frozen 1
  have f2 := hx2.frozen 2
  have hbb := (hb1.mono (Nat.le_of_lt hlt)).trans ((hb2.mono (Nat.le_of_lt hl1)).trans (hb3.mono (Nat.le_of_lt hl2)))
  have Hx := (hx2.setA na).setB nb
  have Hb := (hbb.setCell (p := ⟨g, 1, none⟩) (Nat.le_refl _) (.int .i64 na)).setCell (p := ⟨g, 2, none⟩) (Nat.le_refl _) (.int .i64 nb)
  have HH := Lib.hid (And.intro Hx Hb)
  clear Hx Hb hx hb1 hb2 hb3 hbb hl1 hl2 hx2
  cases bi with
  | false =>
    go_wp2_with fail
    go_ret
    exact ⟨rfl, HH.out.1, HH.out.2⟩
  | true =>
    cases ba with
    | false =>
      go_wp2_with fail
      go_ret
      exact ⟨rfl, HH.out.1, HH.out.2⟩
    | true =>
      go_wp2_with fail
      go_ret
      exact ⟨rfl, HH.out.1, HH.out.2⟩

set_option maxRecDepth 100000 in
theorem get_cons_c (g : Nat) (n : Int) (o : Option T) (w : World) (hx : InsBlk w g ⟨n, 0, 0, 0, ⟨#[]⟩⟩) (ho : osz o ≤ 2000000) :
    Calls Try.prog 153 #[.pointer (some ⟨g, 0, none⟩), .string (sOf o)] w (GetPost g w ⟨n, (getCons o).1.a, (getCons o).1.b, (getCons o).1.c, ⟨#[]⟩⟩ (getCons o).2) := by
  simp only [getCons]
  have hp := fun w => cpair_c o w ho
  have hp2 := fun w => cpair_c (prB o) w (osz_prB ho)
  have hv := fun w => value_c (prA o) w (osz_prA ho)
  have hv2 := fun w => value_c (prA (prB o)) w (osz_prA (osz_prB ho))
  have hv3 := fun w => value_c (prB (prB o)) w (osz_prB (osz_prB ho))
  have hlt : g < w.heap.size := lt_of_block hx
  generalize sOf (prA (prB o)) = sba at *
  generalize sOf (prB (prB o)) = sbb at *
  generalize sOf (prB o) = sb at *
  generalize sOf (prA o) = sa at *
  generalize sOf o = s at *
  generalize numV (prA (prB o)) = nb at *
  generalize numB (prA (prB o)) = bb at *
  generalize numV (prB (prB o)) = nc at *
  generalize numB (prB (prB o)) = bc at *
  generalize numV (prA o) = na at *
  generalize numB (prA o) = ba at *
  generalize prIs (prB o) = bj at *
  generalize prIs o = bi at *
  have Hp := Lib.hid hp
  have Hp2 := Lib.hid hp2
  have Hv := Lib.hid hv
  have Hv2 := Lib.hid hv2
  have Hv3 := Lib.hid hv3
  clear hp hv hv2 hv3 hp2
  go_enter Try.func153, Try.ntmps153
  go_wp2_with fail
  refine (Hp.out _).mono ?_
  rintro e w1 ⟨rfl, hb1⟩
  have hl1 := Nat.lt_of_lt_of_le hlt hb1.size
  go_wp2_with fail
  refine (Hp2.out _).mono ?_
  rintro e w2 ⟨rfl, hb2⟩
  have hl2 := Nat.lt_of_lt_of_le hl1 hb2.size
  go_wp2_with fail
  refine (Hv.out _).mono ?_
  rintro e w3 ⟨rfl, hb3⟩
  have hl3 := Nat.lt_of_lt_of_le hl2 hb3.size
  go_wp2_with fail
  refine (Hv2.out _).mono ?_
  rintro e w4 ⟨rfl, hb4⟩
  have hl4 := Nat.lt_of_lt_of_le hl3 hb4.size
  go_wp2_with fail
  refine (Hv3.out _).mono ?_
  rintro e w5 ⟨rfl, hb5⟩
  have hx2 := ((((hx.below hb1 hlt).below hb2 hl1).below hb3 hl2).below hb4 hl3).below hb5 hl4
  obtain ⟨c0, c1, c2, c3, c4⟩ := hx2.cells
  have f1 := hx2.frozen 1
  have f2 := hx2.frozen 2
  have f3 := hx2.frozen 3
  have hbb := (hb1.mono (Nat.le_of_lt hlt)).trans ((hb2.mono (Nat.le_of_lt hl1)).trans ((hb3.mono (Nat.le_of_lt hl2)).trans ((hb4.mono (Nat.le_of_lt hl3)).trans (hb5.mono (Nat.le_of_lt hl4)))))
  have Hx := ((hx2.setA na).setB nb).setC nc
  have Hb := ((hbb.setCell (p := ⟨g, 1, none⟩) (Nat.le_refl _) (.int .i64 na)).setCell (p := ⟨g, 2, none⟩) (Nat.le_refl _) (.int .i64 nb)).setCell (p := ⟨g, 3, none⟩) (Nat.le_refl _) (.int .i64 nc)
  have HH := Lib.hid (And.intro Hx Hb)
  clear Hx Hb hx hb1 hb2 hb3 hb4 hb5 hbb hl1 hl2 hl3 hl4 hx2 Hp Hp2 Hv Hv2 Hv3
  cases bi with
  | false =>
    go_wp2_with fail
    go_ret
    exact ⟨rfl, HH.out.1, HH.out.2⟩
  | true =>
    cases bj with
    | false =>
      go_wp2_with fail
      go_ret
      exact ⟨rfl, HH.out.1, HH.out.2⟩
    | true =>
      cases ba with
      | false =>
        go_wp2_with fail
        go_ret
        exact ⟨rfl, HH.out.1, HH.out.2⟩
      | true =>
        cases bb with
        | false =>
          go_wp2_with fail
          go_ret
          exact ⟨rfl, HH.out.1, HH.out.2⟩
        | true =>
          go_wp2_with fail
          go_ret
          exact ⟨rfl, HH.out.1, HH.out.2⟩

theorem numV_le (o : Option T) : numV o ≤ osz o := by
  cases h : numO o with
  | none => simp [numV, h]
  | some n =>
    have := numO_some h
    subst this
    rw [numV_numT]
    simp only [osz, numT_size]; omega

set_option maxRecDepth 100000 in
theorem get_jump_c (g : Nat) (n : Int) (o : Option T) (w : World) (hx : InsBlk w g ⟨n, 0, 0, 0, ⟨#[]⟩⟩) (ho : osz o ≤ 2000000) :
    Calls Try.prog 155 #[.pointer (some ⟨g, 0, none⟩), .string (sOf o)] w (GetPost g w ⟨n, (getJump o).1.a, (getJump o).1.b, 0, ⟨#[]⟩⟩ (getJump o).2) := by
  simp only [getJump]
  have hp := fun w => cpair_c o w ho
  have hp2 := fun w => cpair_c (prB o) w (osz_prB ho)
  have hv := fun w => value_c (prA o) w (osz_prA ho)
  have hv3 := fun w => value_c (prB (prB o)) w (osz_prB (osz_prB ho))
  have hlt : g < w.heap.size := lt_of_block hx
  have hs1 : ((sOf (prA (prB o))).toList == [49, 48, 48]) = sg1 o := by
    unfold sg1
    rw [Bool.eq_iff_iff, beq_iff_eq, decide_eq_true_eq]
    exact ⟨fun h => ba_toList_inj (by rw [h, toList_strB]), fun h => by rw [h, toList_strB]⟩
  have hs0 : ((sOf (prA (prB o))).toList == [48]) = sg0 o := by
    unfold sg0
    rw [Bool.eq_iff_iff, beq_iff_eq, decide_eq_true_eq]
    exact ⟨fun h => ba_toList_inj (by rw [h, toList_strB]), fun h => by rw [h, toList_strB]⟩
  have hs01 : sg1 o = true → sg0 o = false := by
    intro h
    rw [← hs0]
    rw [← hs1, beq_iff_eq] at h
    rw [h]; rfl
  have hnc : numV (prB (prB o)) ≤ 2000000 := Nat.le_trans (numV_le _) (osz_prB (osz_prB ho))
  generalize sOf (prA (prB o)) = sba at *
  generalize sOf (prB (prB o)) = sbb at *
  generalize sOf (prB o) = sb at *
  generalize sOf (prA o) = sa at *
  generalize sOf o = s at *
  generalize numV (prB (prB o)) = nc at *
  generalize numB (prB (prB o)) = bc at *
  generalize numV (prA o) = na at *
  generalize numB (prA o) = ba at *
  generalize prIs (prB o) = bj at *
  generalize prIs o = bi at *
  generalize sg0 o = g0 at *
  generalize sg1 o = g1 at *
  have Hp := Lib.hid hp
  have Hp2 := Lib.hid hp2
  have Hv := Lib.hid hv
  have Hv3 := Lib.hid hv3
  have Hs := Lib.hid (And.intro hs1 (And.intro hs0 hs01))
  clear hp hv hv3 hp2 hs1 hs0 hs01
  cases g1 with
  | true =>
    simp only [if_true]
    go_enter Try.func155, Try.ntmps155
    go_wp2_with fail
    refine (Hp.out _).mono ?_
    rintro e w1 ⟨rfl, hb1⟩
    have hl1 := Nat.lt_of_lt_of_le hlt hb1.size
    go_wp2_with fail
    refine (Hp2.out _).mono ?_
    rintro e w2 ⟨rfl, hb2⟩
    have hl2 := Nat.lt_of_lt_of_le hl1 hb2.size
    go_wp2_with fail
    refine (Hv.out _).mono ?_
    rintro e w3 ⟨rfl, hb3⟩
    have hl3 := Nat.lt_of_lt_of_le hl2 hb3.size
    go_wp2_with fail
    refine (Hv3.out _).mono ?_
    rintro e w5 ⟨rfl, hb5⟩
    have hx2 := (((hx.below hb1 hlt).below hb2 hl1).below hb3 hl2).below hb5 hl3
    obtain ⟨c0, c1, c2, c3, c4⟩ := hx2.cells
    have f1 := hx2.frozen 1
    have f2 := hx2.frozen 2
    have hbb := (hb1.mono (Nat.le_of_lt hlt)).trans ((hb2.mono (Nat.le_of_lt hl1)).trans ((hb3.mono (Nat.le_of_lt hl2)).trans (hb5.mono (Nat.le_of_lt hl3))))
    obtain ⟨hs1, hs0, hs01⟩ := Hs.out
    have hs0 := hs0.trans (hs01 (by simp))
    have hs01 := hs01 (by simp)
    subst hs01
    have Hx := ((hx2.setA na).setB nc).setB (-(nc : Int))
    have Hb := ((hbb.setCell (p := ⟨g, 1, none⟩) (Nat.le_refl _) (.int .i64 na)).setCell (p := ⟨g, 2, none⟩) (Nat.le_refl _) (.int .i64 nc)).setCell (p := ⟨g, 2, none⟩) (Nat.le_refl _) (.int .i64 (-(nc : Int)))
    have HH := Lib.hid (And.intro Hx Hb)
    have hn0 : (nc : Int) ≤ 2000000 := by omega
    clear Hx Hb hx hb1 hb2 hb3 hb5 hbb hl1 hl2 hl3 hx2 Hp Hp2 Hv Hv3 Hs
    cases bi with
    | false =>
      go_wp2_with fail
      go_ret
      exact ⟨by first | rfl | simp, by simpa using HH.out.1, HH.out.2⟩
    | true =>
      cases bj with
      | false =>
        go_wp2_with fail
        go_ret
        exact ⟨by first | rfl | simp, by simpa using HH.out.1, HH.out.2⟩
      | true =>
        cases ba with
        | false =>
          go_wp2_with fail
          go_ret
          exact ⟨by first | rfl | simp, by simpa using HH.out.1, HH.out.2⟩
        | true =>
          cases bc with
          | false =>
            go_wp2_with fail
            go_ret
            exact ⟨by first | rfl | simp, by simpa using HH.out.1, HH.out.2⟩
          | true =>
            cases nc with
            | zero =>
              go_wp2_with fail
              go_ret
              exact ⟨by first | rfl | simp, by simpa using HH.out.1, HH.out.2⟩
            | succ nc =>
              have hpos : (0 : Int) < ((nc + 1 : Nat) : Int) := by omega
              go_wp2_with fail
              go_ret
              exact ⟨by first | rfl | simp, by simpa using HH.out.1, HH.out.2⟩
  | false =>
    simp only [Bool.false_eq_true, if_false]
    go_enter Try.func155, Try.ntmps155
    go_wp2_with fail
    refine (Hp.out _).mono ?_
    rintro e w1 ⟨rfl, hb1⟩
    have hl1 := Nat.lt_of_lt_of_le hlt hb1.size
    go_wp2_with fail
    refine (Hp2.out _).mono ?_
    rintro e w2 ⟨rfl, hb2⟩
    have hl2 := Nat.lt_of_lt_of_le hl1 hb2.size
    go_wp2_with fail
    refine (Hv.out _).mono ?_
    rintro e w3 ⟨rfl, hb3⟩
    have hl3 := Nat.lt_of_lt_of_le hl2 hb3.size
    go_wp2_with fail
    refine (Hv3.out _).mono ?_
    rintro e w5 ⟨rfl, hb5⟩
    have hx2 := (((hx.below hb1 hlt).below hb2 hl1).below hb3 hl2).below hb5 hl3
    obtain ⟨c0, c1, c2, c3, c4⟩ := hx2.cells
    have f1 := hx2.frozen 1
    have f2 := hx2.frozen 2
    have hbb := (hb1.mono (Nat.le_of_lt hlt)).trans ((hb2.mono (Nat.le_of_lt hl1)).trans ((hb3.mono (Nat.le_of_lt hl2)).trans (hb5.mono (Nat.le_of_lt hl3))))
    obtain ⟨hs1, hs0, _⟩ := Hs.out
    have Hx := (hx2.setA na).setB nc
    have Hb := (hbb.setCell (p := ⟨g, 1, none⟩) (Nat.le_refl _) (.int .i64 na)).setCell (p := ⟨g, 2, none⟩) (Nat.le_refl _) (.int .i64 nc)
    have HH := Lib.hid (And.intro Hx Hb)
    clear Hx Hb hx hb1 hb2 hb3 hb5 hbb hl1 hl2 hl3 hx2 Hp Hp2 Hv Hv3 Hs
    cases bi with
    | false =>
      go_wp2_with fail
      go_ret
      exact ⟨by first | rfl | simp, by simpa using HH.out.1, HH.out.2⟩
    | true =>
      cases bj with
      | false =>
        go_wp2_with fail
        go_ret
        exact ⟨by first | rfl | simp, by simpa using HH.out.1, HH.out.2⟩
      | true =>
        cases ba with
        | false =>
          go_wp2_with fail
          go_ret
          exact ⟨by first | rfl | simp, by simpa using HH.out.1, HH.out.2⟩
        | true =>
          cases bc with
          | false =>
            go_wp2_with fail
            go_ret
            exact ⟨by first | rfl | simp, by simpa using HH.out.1, HH.out.2⟩
          | true =>
            cases g0 with
            | false =>
              go_wp2_with fail
              go_ret
              exact ⟨by first | rfl | simp, by simpa using HH.out.1, HH.out.2⟩
            | true =>
              go_wp2_with fail
              go_ret
              exact ⟨by first | rfl | simp, by simpa using HH.out.1, HH.out.2⟩

end Go.Proofs.Ythmnbciefpkpmaa
