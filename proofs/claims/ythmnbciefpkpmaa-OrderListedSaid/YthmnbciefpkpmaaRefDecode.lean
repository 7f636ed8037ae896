/- The walks of Code of the first and the second reference, of List, and of Decode of the second. -/
import Derived.Test.YthmnbciefpkpmaaRefDec
import Derived.Test.YthmnbciefpkpmaaGets
import Derived.Lib.AppendStr
import Derived.Deep.CutBlock
import Derived.Deep.DeepCutAuto
namespace Go.Proofs.Ythmnbciefpkpmaa
open Go.RowKit

theorem leastL_numT (n : Nat) : leastL n 1 = enc (numT n) := by rw [enc_numT]; rfl

theorem num1_c (n : Nat) (w : World) (hn : n ≤ 1000000) :
    Calls Try.prog 44 #[.int .i64 n] w fun e w' => e = .returned (.string (strB (enc (numT n)))) ∧ Below w.heap.size w w' := by
  have := number1_c n w hn
  rw [leastL_numT] at this
  exact this

theorem pair2_t (x y : T) (w : World) (h : x.size + y.size ≤ 100000000) :
    Calls Try.prog 149 #[.string (strB (enc x)), .string (strB (enc y))] w fun e w' => e = .returned (.string (strB (enc (.node x y)))) ∧ w = w' := by
  have := pair2_c (strB (enc x)) (strB (enc y)) w (by rw [strB_size, strB_size, enc_len, enc_len]; omega)
  rw [← enc_node] at this
  exact this

theorem boxIns (w : World) (x : Ins) : InsBlk (w.alloc (.cells #[.int .i64 x.op, .int .i64 x.a, .int .i64 x.b, .int .i64 x.c, .string x.tree] 57 (0, 0))) w.heap.size x := heap_alloc_new _ _

theorem InsBlk.drew {w : World} {g : Nat} {x : Ins} (h : InsBlk w g x) : InsBlk w.drew g x := h

theorem ins_tree {x : Ins} {chars i n : Int} (h : insOk chars i n x = true) (h0 : x.op = 0) : x.tree = strB (enc (setT x)) := by
  rcases (insOk_cases h).2 with ⟨_, ht⟩ | ⟨h1, _⟩ | ⟨h1, _⟩ | ⟨h1, _⟩
  · split at ht
    · simp at ht
    · have := treeOf_some ht
      rw [← this, strB_toList]
  all_goals omega

set_option maxRecDepth 100000 in
set_option maxHeartbeats 1500000 in
theorem codeOf_c (x : Ins) (i n : Int) (w : World) (h : insOk 2000000 i n x = true) (hi : 0 ≤ i) (hin : i ≤ n) (hn : n ≤ 4000) :
    Calls Try.prog 108 #[.agg #[.int .i64 x.op, .int .i64 x.a, .int .i64 x.b, .int .i64 x.c, .string x.tree]] w fun e w' => e = .returned (.string (strB (enc (codeI x)))) ∧ Below w.heap.size w w' := by
  obtain ⟨⟨na, ha, hna⟩, hc⟩ := insOk_cases h
  have hsT := setT_len h
  have htz : x.op = 0 → (x.tree.size : Int) ≤ 2000000 := by
    intro h0
    rcases hc with ⟨_, ht⟩ | ⟨h1, _⟩ | ⟨h1, _⟩ | ⟨h1, _⟩
    · split at ht
      · simp at ht
      · omega
    all_goals omega
  have htr := fun h0 => ins_tree h h0
  have hbx := boxIns w x
  have hbel := (Below.refl w.heap.size w).alloc (Nat.le_refl _) (.cells #[.int .i64 x.op, .int .i64 x.a, .int .i64 x.b, .int .i64 x.c, .string x.tree] 57 (0, 0))
  have hlt : w.heap.size < (w.alloc (.cells #[.int .i64 x.op, .int .i64 x.a, .int .i64 x.b, .int .i64 x.c, .string x.tree] 57 (0, 0))).heap.size := by simp
  have hnA := fun w => num1_c na w (by omega)
  have hsA : (numT na).size ≤ 63 := by rw [numT_size]; omega
  obtain ⟨op, a, b, c, tree⟩ := x
  simp only at *
  subst ha
  have HA := Lib.hid hnA
  have HB := Lib.hid (And.intro hbx (And.intro hbel hlt))
  clear hnA hbx hbel hlt h
  rcases hc with ⟨rfl, _⟩ | ⟨hop, nb, rfl, hb2⟩ | ⟨rfl, ⟨nb, rfl, hb2⟩, nc, rfl, hc2⟩ | ⟨rfl, h3, h4⟩
  · -- set
    have hcode : codeI ⟨0, na, b, c, tree⟩ = .node (numT 0) (.node (numT na) (setT ⟨0, na, b, c, tree⟩)) := by simp [codeI, codeR]
    rw [hcode]
    have htr0 := htr rfl
    have htz0 := htz rfl
    generalize setT ⟨0, na, b, c, tree⟩ = u at *
    have hp1 := fun w => pair2_t (numT na) u w (by omega)
    have hn0 := fun w => num1_c 0 w (by decide)
    have hp2 := fun w => pair2_t (numT 0) (.node (numT na) u) w (by simp only [T.size, numT]; omega)
    rw [← htr0] at hp1
    have HP1 := Lib.hid hp1
    have HN0 := Lib.hid hn0
    have HP2 := Lib.hid hp2
    clear hp1 hn0 hp2 htr0 htr htz hcode
    go_enter Try.func108, Try.ntmps108
    go_wp2_with fail
    obtain ⟨hbx, hbel, hlt⟩ := HB.out
    clear HB
    generalize w.alloc (.cells #[.int .i64 0, .int .i64 na, .int .i64 b, .int .i64 c, .string tree] 57 (0, 0)) = w0 at *
    refine (HA.out _).mono ?_
    rintro e w1 ⟨rfl, hb1⟩
    have hx1 := hbx.below hb1 hlt
    obtain ⟨c0, c1, c2, c3, c4⟩ := hx1.cells
    have hbel1 := hbel.trans (hb1.mono hbel.size)
    have hlt1 := Nat.lt_of_lt_of_le hlt hb1.size
    clear hbel hb1 hbx hlt
    go_wp2_with fail
    refine (HP1.out _).mono ?_
    rintro e w2 ⟨rfl, rfl⟩
    go_wp2_with fail
    refine (HN0.out _).mono ?_
    rintro e w3 ⟨rfl, hb3⟩
    go_wp2_with fail
    refine (HP2.out _).mono ?_
    rintro e w4 ⟨rfl, rfl⟩
    go_wp2_with fail
    go_ret
    exact ⟨rfl, hbel1.trans (hb3.mono hbel1.size)⟩
  · -- move, head, tail
    obtain ⟨no, rfl⟩ : ∃ no : Nat, op = no := ⟨op.toNat, by omega⟩
    have hno : no = 1 ∨ no = 3 ∨ no = 4 := by omega
    have hcode : codeI ⟨no, na, nb, c, tree⟩ = .node (numT no) (.node (numT na) (numT nb)) := by
      simp only [codeI, codeR]
      rw [if_neg (by omega), if_neg (by omega), if_neg (by omega)]
      simp
    rw [hcode]
    have hsB : (numT nb).size ≤ 63 := by rw [numT_size]; omega
    have hsO : (numT no).size ≤ 11 := by rw [numT_size]; omega
    have HNB := Lib.hid (fun w => num1_c nb w (by omega))
    have HNO := Lib.hid (fun w => num1_c no w (by omega))
    have HP1 := Lib.hid (fun w => pair2_t (numT na) (numT nb) w (by omega))
    have HP2 := Lib.hid (fun w => pair2_t (numT no) (.node (numT na) (numT nb)) w (by simp only [T.size]; omega))
    clear htr htz hcode hop hsT
    rcases hno with rfl | rfl | rfl
    all_goals (
      go_enter Try.func108, Try.ntmps108
      go_wp2_with fail
      obtain ⟨hbx, hbel, hlt⟩ := HB.out
      clear HB
      refine (HA.out _).mono ?_
      rintro e w1 ⟨rfl, hb1⟩
      have hx1 := hbx.below hb1 hlt
      obtain ⟨c0, c1, c2, c3, c4⟩ := hx1.cells
      have hbel1 := hbel.trans (hb1.mono hbel.size)
      have hlt1 := Nat.lt_of_lt_of_le hlt hb1.size
      clear hbel hb1 hbx hlt
      go_wp2_with fail
      refine (HNB.out _).mono ?_
      rintro e w2 ⟨rfl, hb2'⟩
      have hx2 := hx1.below hb2' hlt1
      obtain ⟨d0, d1, d2, d3, d4⟩ := hx2.cells
      have hbel2 := hbel1.trans (hb2'.mono hbel1.size)
      clear hbel1 hb2' hx1 hlt1 c0 c1 c2 c3 c4
      go_wp2_with fail
      refine (HP1.out _).mono ?_
      rintro e w3 ⟨rfl, rfl⟩
      go_wp2_with fail
      refine (HNO.out _).mono ?_
      rintro e w4 ⟨rfl, hb4⟩
      go_wp2_with fail
      refine (HP2.out _).mono ?_
      rintro e w5 ⟨rfl, rfl⟩
      go_wp2_with fail
      go_ret
      exact ⟨rfl, hbel2.trans (hb4.mono hbel2.size)⟩)
  · -- cons
    have hcode : codeI ⟨2, na, nb, nc, tree⟩ = .node (numT 2) (.node (numT na) (.node (numT nb) (numT nc))) := by simp [codeI, codeR]
    rw [hcode]
    have hsB : (numT nb).size ≤ 63 := by rw [numT_size]; omega
    have hsC : (numT nc).size ≤ 63 := by rw [numT_size]; omega
    have HNB := Lib.hid (fun w => num1_c nb w (by omega))
    have HNC := Lib.hid (fun w => num1_c nc w (by omega))
    have HNO := Lib.hid (fun w => num1_c 2 w (by omega))
    have HP0 := Lib.hid (fun w => pair2_t (numT nb) (numT nc) w (by omega))
    have HP1 := Lib.hid (fun w => pair2_t (numT na) (.node (numT nb) (numT nc)) w (by simp only [T.size]; omega))
    have HP2 := Lib.hid (fun w => pair2_t (numT 2) (.node (numT na) (.node (numT nb) (numT nc))) w (by simp only [T.size, numT]; omega))
    clear htr htz hcode hsT
    go_enter Try.func108, Try.ntmps108
    go_wp2_with fail
    obtain ⟨hbx, hbel, hlt⟩ := HB.out
    clear HB
    generalize w.alloc (.cells #[.int .i64 2, .int .i64 na, .int .i64 nb, .int .i64 nc, .string tree] 57 (0, 0)) = w0 at *
    refine (HA.out _).mono ?_
    rintro e w1 ⟨rfl, hb1⟩
    have hx1 := hbx.below hb1 hlt
    obtain ⟨c0, c1, c2, c3, c4⟩ := hx1.cells
    have hbel1 := hbel.trans (hb1.mono hbel.size)
    have hlt1 := Nat.lt_of_lt_of_le hlt hb1.size
    clear hbel hb1 hbx hlt
    go_wp2_with fail
    clear HA
    generalize hG : w.heap.size = G at *
    have HG := Lib.hid hG
    go_region_held3 (fun w' => w'.cell? ⟨G, 2, none⟩ = some (.int .i64 nb) ∧ w'.cell? ⟨G, 3, none⟩ = some (.int .i64 nc) ∧ G < w'.heap.size)
      (first | go_keep | (go_simp))
      (first
        | (go_at_call_of 44 (Value.int .i64 nb); refine (HNB.out _).mono ?_; rintro e w2 ⟨rfl, hb2'⟩; have hx2 := (InsBlk.drew hx1).below hb2' hlt1; have hB1 := (Below.refl w1.heap.size w1).drew.trans hb2'; have g1 := hx2.cells.2.2.1; have g2 := hx2.cells.2.2.2.1; have g3 := Nat.lt_of_lt_of_le hlt1 hb2'.size)
        | (go_at_call_of 44 (Value.int .i64 nc); refine (HNC.out _).mono ?_; rintro e w3 ⟨rfl, hb3'⟩; have hx3 := hx2.below hb3' g3; have g4 := hx3.cells.2.2.1; have g5 := hx3.cells.2.2.2.1; have g6 := Nat.lt_of_lt_of_le g3 hb3'.size)
        | (go_at_call_of 149 (Value.string (strB (enc (numT nb)))); refine (HP0.out _).mono ?_; rintro e w4 ⟨rfl, rfl⟩)
        | (go_at_call_of 149 (Value.string (strB (enc (numT na)))); refine (HP1.out _).mono ?_; rintro e w5 ⟨rfl, rfl⟩))
    all_goals (
      have hx4 := hx3.cells.1
      have hbel3 := hbel1.trans ((hB1.mono (by rw [← hG]; exact hbel1.size)).trans (hb3'.mono (by have := hbel1.size; have := hB1.size; omega)))
      have hs3 : G ≤ w3.heap.size := by have := hbel3.size; omega
      clear hB1 hb3' hbel1 hG
      go_wp2_with fail
      refine (HNO.out _).mono ?_
      rintro e w6 ⟨rfl, hb6⟩
      go_wp2_with fail
      refine (HP2.out _).mono ?_
      rintro e w7 ⟨rfl, rfl⟩
      go_wp2_with fail
      go_ret
      exact ⟨rfl, by rw [HG.out]; exact hbel3.trans (hb6.mono hs3)⟩)
  · -- jump
    have hs5 : (numT 5).size = 11 := by rw [numT_size]
    have HN5 := Lib.hid (fun w => num1_c 5 w (by decide))
    have hn0 : T.nil.size = 1 := rfl
    by_cases hneg : b < 0
    · obtain ⟨m, hm⟩ : ∃ m : Nat, b = -((m : Int) + 1) := ⟨(-b - 1).toNat, by omega⟩
      have hm4 : m + 1 ≤ 4000 := by omega
      have hcode : codeI ⟨5, na, b, c, tree⟩ = .node (numT 5) (.node (numT na) (.node (numT 1) (numT (m + 1)))) := by
        simp only [codeI, codeR]
        rw [if_neg (by decide), if_neg (by decide), if_pos trivial, if_pos hneg]
        have : (-b).toNat = m + 1 := by omega
        rw [this]
        simp
      rw [hcode]
      have hsM : (numT (m + 1)).size ≤ 8001 := by rw [numT_size]; omega
      have hsN1 : (numT 1).size = 3 := by rw [numT_size]
      have hsN0 : (numT 0).size = 1 := by rw [numT_size]
      have hnb : -b = ((m + 1 : Nat) : Int) := by omega
      have hmax : max b 0 = 0 := by omega
      have hn0' : ∀ w, Calls Try.prog 44 #[.int .i64 (max b 0)] w fun e w' => e = .returned (.string (strB (enc (numT 0)))) ∧ Below w.heap.size w w' := fun w => by rw [hmax]; exact num1_c 0 w (by decide)
      have HN0 := Lib.hid hn0'
      clear hmax hn0'
      have hnm : ∀ w, Calls Try.prog 44 #[.int .i64 (-b)] w fun e w' => e = .returned (.string (strB (enc (numT (m + 1))))) ∧ Below w.heap.size w w' := fun w => by rw [hnb]; exact num1_c (m + 1) w (by omega)
      have HNM := Lib.hid hnm
      have HPa : Hid (∀ w, Calls Try.prog 149 #[.string ⟨#[48]⟩, .string (strB (enc (numT 0)))] w fun e w' => e = .returned (.string (strB (enc (.node .nil (numT 0))))) ∧ w = w') := Lib.hid (fun w => pair2_t .nil (numT 0) w (by omega))
      have HPb := Lib.hid (fun w => pair2_t (numT na) (.node .nil (numT 0)) w (by simp only [T.size]; omega))
      have HPc : Hid (∀ w, Calls Try.prog 149 #[.string ⟨#[49, 48, 48]⟩, .string (strB (enc (numT (m + 1))))] w fun e w' => e = .returned (.string (strB (enc (.node (numT 1) (numT (m + 1)))))) ∧ w = w') := Lib.hid (fun w => pair2_t (numT 1) (numT (m + 1)) w (by omega))
      have HPd := Lib.hid (fun w => pair2_t (numT na) (.node (numT 1) (numT (m + 1))) w (by simp only [T.size]; omega))
      have HPe := Lib.hid (fun w => pair2_t (numT 5) (.node (numT na) (.node (numT 1) (numT (m + 1)))) w (by simp only [T.size]; omega))
      have hb5 : -4000 ≤ b := by omega
      clear htr htz hcode hsT hm hnb hnm
      go_enter Try.func108, Try.ntmps108
      go_wp2_with fail
      obtain ⟨hbx, hbel, hlt⟩ := HB.out
      clear HB
      generalize w.alloc (.cells #[.int .i64 5, .int .i64 na, .int .i64 b, .int .i64 c, .string tree] 57 (0, 0)) = w0 at *
      refine (HA.out _).mono ?_
      rintro e w1 ⟨rfl, hb1⟩
      have hx1 := hbx.below hb1 hlt
      obtain ⟨c0, c1, c2, c3, c4⟩ := hx1.cells
      have hbel1 := hbel.trans (hb1.mono hbel.size)
      have hlt1 := Nat.lt_of_lt_of_le hlt hb1.size
      clear hbel hb1 hbx hlt
      go_wp2_with fail
      refine (HN0.out _).mono ?_
      rintro e w2 ⟨rfl, hb2'⟩
      have hx2 := hx1.below hb2' hlt1
      have hlt2 := Nat.lt_of_lt_of_le hlt1 hb2'.size
      obtain ⟨d0, d1, d2, d3, d4⟩ := hx2.cells
      have hbel2 := hbel1.trans (hb2'.mono hbel1.size)
      clear hbel1 hb2' hx1 hlt1 c0 c1 c2 c3 c4
      go_wp2_with fail
      refine (HPa.out _).mono ?_
      rintro e w3 ⟨rfl, rfl⟩
      go_wp2_with fail
      refine (HPb.out _).mono ?_
      rintro e w4 ⟨rfl, rfl⟩
      go_wp2_with fail
      refine (HNM.out _).mono ?_
      rintro e w5 ⟨rfl, hb5'⟩
      have hx5 := hx2.below hb5' hlt2
      obtain ⟨e0, e1, e2, e3, e4⟩ := hx5.cells
      have hbel5 := hbel2.trans (hb5'.mono hbel2.size)
      clear hbel2 hb5' hx2 hlt2 d0 d1 d2 d3 d4
      go_wp2_with fail
      refine (HPc.out _).mono ?_
      rintro e w6 ⟨rfl, rfl⟩
      go_wp2_with fail
      refine (HPd.out _).mono ?_
      rintro e w7 ⟨rfl, rfl⟩
      go_wp2_with fail
      refine (HN5.out _).mono ?_
      rintro e w8 ⟨rfl, hb8⟩
      go_wp2_with fail
      refine (HPe.out _).mono ?_
      rintro e w9 ⟨rfl, rfl⟩
      go_wp2_with fail
      go_ret
      exact ⟨rfl, hbel5.trans (hb8.mono hbel5.size)⟩
    · obtain ⟨m, rfl⟩ : ∃ m : Nat, b = (m : Int) := ⟨b.toNat, by omega⟩
      have hm4 : m ≤ 4000 := by omega
      have hcode : codeI ⟨5, na, m, c, tree⟩ = .node (numT 5) (.node (numT na) (.node .nil (numT m))) := by
        simp only [codeI, codeR]
        rw [if_neg (by decide), if_neg (by decide), if_pos trivial, if_neg hneg]
        simp
      rw [hcode]
      have hsM : (numT m).size ≤ 8001 := by rw [numT_size]; omega
      have hm0 : (0 : Int) ≤ (m : Int) := by omega
      have HNM := Lib.hid (fun w => num1_c m w (by omega))
      have HPa : Hid (∀ w, Calls Try.prog 149 #[.string ⟨#[48]⟩, .string (strB (enc (numT m)))] w fun e w' => e = .returned (.string (strB (enc (.node .nil (numT m))))) ∧ w = w') := Lib.hid (fun w => pair2_t .nil (numT m) w (by omega))
      have HPb := Lib.hid (fun w => pair2_t (numT na) (.node .nil (numT m)) w (by simp only [T.size]; omega))
      have HPe := Lib.hid (fun w => pair2_t (numT 5) (.node (numT na) (.node .nil (numT m))) w (by simp only [T.size]; omega))
      clear htr htz hcode hsT hneg
      go_enter Try.func108, Try.ntmps108
      go_wp2_with fail
      obtain ⟨hbx, hbel, hlt⟩ := HB.out
      clear HB
      generalize w.alloc (.cells #[.int .i64 5, .int .i64 na, .int .i64 m, .int .i64 c, .string tree] 57 (0, 0)) = w0 at *
      refine (HA.out _).mono ?_
      rintro e w1 ⟨rfl, hb1⟩
      have hx1 := hbx.below hb1 hlt
      obtain ⟨c0, c1, c2, c3, c4⟩ := hx1.cells
      have hbel1 := hbel.trans (hb1.mono hbel.size)
      have hlt1 := Nat.lt_of_lt_of_le hlt hb1.size
      clear hbel hb1 hbx hlt
      go_wp2_with fail
      refine (HNM.out _).mono ?_
      rintro e w2 ⟨rfl, hb2'⟩
      have hx2 := hx1.below hb2' hlt1
      obtain ⟨d0, d1, d2, d3, d4⟩ := hx2.cells
      have hbel2 := hbel1.trans (hb2'.mono hbel1.size)
      clear hbel1 hb2' hx1 hlt1 c0 c1 c2 c3 c4
      go_wp2_with fail
      refine (HPa.out _).mono ?_
      rintro e w3 ⟨rfl, rfl⟩
      go_wp2_with fail
      refine (HPb.out _).mono ?_
      rintro e w4 ⟨rfl, rfl⟩
      go_wp2_with fail
      refine (HN5.out _).mono ?_
      rintro e w8 ⟨rfl, hb8⟩
      go_wp2_with fail
      refine (HPe.out _).mono ?_
      rintro e w9 ⟨rfl, rfl⟩
      go_wp2_with fail
      go_ret
      exact ⟨rfl, hbel2.trans (hb8.mono hbel2.size)⟩

/-- append of a string at a step of a region that draws its order -/
theorem step_append_string {P : Program} {w : World} {ops : Array Oper} {o : Oper} {a : Act} {K : Act → World → Prop} {Q : Exit → Act → World → Prop} {E : Prop} (hgd : o.guard = none) (sl x : Operand) (t u : TypeId)
    (ho : o.op = .call { callee := .builtin .append, args := #[sl, x], argTypes := #[t, u] })
    (base : Nat) (e : TypeId) (i : TypeInfo) (ht : P.underlying t = some (.slice e)) (hu : P.underlying u = some .string) (hi : P.info? e = some i) (hz : i.zero = some (.int .u8 0))
    (hsize : i.size = 1) (hby : i.bytes = 1)
    (v : Value) (n : Nat) (xs : List Value) (hs : a.eval sl = v) (hown : w.ownsRow base e 1 v n xs) (s : ByteArray) (hx : a.eval x = .string s)
    (h63 : n + s.size ≤ maxLen) (hbytes : n + s.size ≤ 140737488355328) (hbase : base ≤ w.heap.size)
    (h : ∀ v' w', w'.ownsRow base e 1 v' (n + s.size) (xs ++ Lib.strCells s) → w.grownBy w' v.ownBlock → K (a.put o.dst v') w') :
    if Region.wanted o (yielded ops a.tmps) = true then Oper.wp P o a w K Q else E := by
  have hw : Region.wanted o (yielded ops a.tmps) = true := by simp [Region.wanted, hgd]
  rw [if_pos hw]
  obtain ⟨v', w', hr, h2, h3, _⟩ := Lib.run_append_own_string (P := P) w base t u o.type e i ht hu hi hz hsize hby v n xs hown s h63 hbytes hbase
  unfold Oper.wp execOp
  simp only [ho, resolve, invoke, builtin, Sem.run_bind, Sem.run_pure, Result.andThen_ok, List.map_toArray, List.map_cons, List.map_nil, hs, hx, hr]
  exact h v' w' h2 h3

theorem cell_of_alloc_old (w : World) (o : Obj) {b k : Nat} (h : b < w.heap.size) : (w.alloc o).drew.cell? ⟨b, k, none⟩ = w.cell? ⟨b, k, none⟩ :=
  ((Below.refl w.heap.size w).alloc (Nat.le_refl _) o).cell (p := ⟨b, k, none⟩) h

def oneL (t : T) : List UInt8 := 49 :: enc t
def listL (ts : List T) : List UInt8 := ts.flatMap oneL

theorem listL_take (ts : List T) (k : Nat) (h : k < ts.length) : listL (ts.take (k + 1)) = listL (ts.take k) ++ oneL (ts.getD k .nil) := by
  unfold listL
  have : ts.take (k + 1) = ts.take k ++ [ts.getD k .nil] := by
    rw [List.take_succ_eq_append_getElem h]; simp [h]
  rw [this, List.flatMap_append]; simp

theorem listL_mono (ts : List T) (k : Nat) : (listL (ts.take k)).length ≤ (listL ts).length := by
  have : listL ts = listL (ts.take k) ++ listL (ts.drop k) := by
    unfold listL
    rw [← List.flatMap_append, List.take_append_drop]
  rw [this, List.length_append]; omega

theorem listL_code : ∀ l : List Ins, listL (l.map codeI) ++ [48] = enc (codeT l)
  | [] => rfl
  | x :: l => by
    have h := listL_code l
    simp only [codeT, enc, List.map_cons, listL, List.flatMap_cons, oneL, List.cons_append, List.append_assoc] at h ⊢
    rw [h]

theorem strCells_enc (t : T) : Lib.strCells (strB (enc t)) = Lib.byteCells (enc t) := rfl

set_option maxRecDepth 100000 in
set_option maxHeartbeats 1500000 in
theorem list1_c (ao : Option Addr) (cap B : Nat) (ts : List T) (w : World) (hst : StrsAt w B ao cap ts) (hlen : ts.length ≤ 1000000) (hsum : (listL ts).length ≤ 100000000) :
    Calls Try.prog 143 #[.slice ao ts.length cap] w fun e w' => e = .returned (.string (strB (listL ts ++ [48]))) ∧ Below w.heap.size w w' := by
  obtain ⟨i1, hj, hy0, hy1, hy2⟩ := info_parts Try.info5
  have hli : (ts.length : Int) ≤ 1000000 := by omega
  go_enter Try.func143, Try.ntmps143
  go_wp2_with fail
  go_loopw [3, 4] (fun v i wr => ∃ (k : Nat) (l : List UInt8) (ao1 : Option Addr) (cap1 : Nat), k ≤ ts.length ∧ i = .int .i64 k ∧ v = .slice ao1 l.length cap1 ∧ l = listL (ts.take k) ∧ BytesAt 5 wr w.heap.size ao1 cap1 l ∧ Below w.heap.size w wr ∧ w.heap.size ≤ wr.heap.size) (fun _ i _ => ts.length - (intOf i).toNat)
  case atStart => exact ⟨0, [], none, 0, Nat.zero_le _, rfl, rfl, rfl, bytesAt_nil _ _ _, Below.refl _ _, Nat.le_refl _⟩
  case round =>
    obtain ⟨k, l, ao1, cap1, hk, rfl, rfl, hl, hby, hbel, hBw⟩ := hrel
    have hlm : l.length ≤ 100000000 := by rw [hl]; exact Nat.le_trans (listL_mono ts k) hsum
    by_cases hlt : k < ts.length
    · obtain ⟨gl, rfl, hgl, c0⟩ := hst.cell k hlt
      have c1 := (hbel.cell (p := ⟨gl, k, none⟩) hgl).trans c0
      have htk := listL_take ts k hlt
      have hmk := listL_mono ts (k + 1)
      rw [htk, ← hl] at hmk
      have hz : (strB (enc (ts.getD k .nil))).size = (enc (ts.getD k .nil)).length := strB_size _
      have hcs := strCells_enc (ts.getD k .nil)
      have hone : oneL (ts.getD k .nil) = 49 :: enc (ts.getD k .nil) := rfl
      rw [hone] at htk hmk
      generalize enc (ts.getD k .nil) = E at *
      generalize strB E = s at *
      have hmk2 : l.length + 1 + s.size ≤ 100000000 := by
        simp at hmk; omega
      rw [← hl] at htk
      have HT := Lib.hid (And.intro htk (And.intro hcs hz))
      unfold BytesAt at hby
      have k1 : (0 : Int) ≤ (k : Int) := by omega
      have k2 : (k : Int) < (ts.length : Int) := by omega
      have hgw : gl < wr.heap.size := Nat.lt_of_lt_of_le hgl hBw
      have hbo := fun k hk => (World.ownsRow.lt hby k hk)
      clear htk hcs hz hone hl hmk c0
      go_wp2_with fail
      have hA0 := World.ownsRow.drew (World.ownsRow.alloc hby (.cells #[.int .u8 49] 5 (0, 0)))
      have hA1 : (wr.alloc (.cells #[.int .u8 49] 5 (0, 0))).drew.heap.size = wr.heap.size + 1 := by simp
      have hA2 : ∀ j u, [Value.int .u8 49][j]? = some u → (wr.alloc (.cells #[.int .u8 49] 5 (0, 0))).drew.cell? ((⟨wr.heap.size, 0, none⟩ : Addr).add j) = some u := news1 (w := (wr.alloc (.cells #[.int .u8 49] 5 (0, 0))).drew) (heap_alloc_new wr _)
      have hA3 : ∀ u ∈ [Value.int .u8 49], u.oneCell' = true := by simp; rfl
      have hA4 : w.heap.size ≤ (wr.alloc (.cells #[.int .u8 49] 5 (0, 0))).drew.heap.size := by rw [hA1]; omega
      have hA5 : l.length + 1 ≤ maxLen := by unfold maxLen; omega
      have hA6 : (l.length + 1) * 1 ≤ 140737488355328 := by omega
      have hA7 : l.length + 1 + s.size ≤ maxLen := by unfold maxLen; omega
      have hA8 : l.length + 1 + s.size ≤ 140737488355328 := by omega
      have HA := Lib.hid (And.intro hA0 (And.intro hA1 (And.intro hA2 (And.intro hA3 (And.intro hA4 (And.intro hA5 (And.intro hA6 (And.intro hA7 hA8))))))))
      have HF := Lib.hid (fun (row : Option Nat) w2 (hg : (wr.alloc (.cells #[.int .u8 49] 5 (0, 0))).drew.grownBy w2 row) (hne : some gl ≠ row) => (hg.cell_far ⟨gl, k, none⟩ (by show gl < _; rw [hA1]; omega) hne).trans (show _ = some (Value.string s) from (cell_of_alloc_old wr _ hgw).trans c1))
      have hneq : some gl ≠ (Value.slice ao1 l.length cap1).ownBlock := by intro e; have := (hbo gl e.symm).1; omega
      have HQ := Lib.hid hneq
      clear hneq hA0 hA1 hA2 hA3 hA4 hA5 hA6 hA7 hA8
      go_region_held3 (fun w' => w'.cell? ⟨gl, k, none⟩ = some (.string s))
        (first | go_keep | (go_simp))
        (first
          | (refine step_append_lies _ (by rfl) _ _ 112 (by rfl) w.heap.size 5 i1 (.int .u8 0) 1 1 Try.underlying112 hj hy0 hy1 hy2 (by rfl) (by decide) (.slice ao1 l.length cap1) l.length (Lib.byteCells l) (by rfl) HA.out.1 ⟨wr.heap.size, 0, none⟩ 1 1 [.int .u8 49] (by rfl) (by rfl) HA.out.2.2.1 HA.out.2.2.2.1 (by decide) HA.out.2.2.2.2.2.1 HA.out.2.2.2.2.2.2.1 HA.out.2.2.2.2.1 (wr.heap.size + 1) HA.out.2.1 ?_; intro g2 cap2 w2 hown2 hgrow2 hat2 hlt2; have hcell2 := HF.out _ w2 hgrow2 HQ.out; have hg2 := (hown2.lt g2 rfl).1; have hs2 : w.heap.size ≤ w2.heap.size := Nat.le_trans HA.out.2.2.2.2.1 hgrow2.size; have hc3 := Lib.hid (fun (w3 : World) (hg : w2.grownBy w3 (some g2)) => (hg.cell_far ⟨gl, k, none⟩ (Nat.lt_of_lt_of_le hgl hs2) (by simp; omega)).trans hcell2))
          | (refine step_append_string (by rfl) _ _ 112 9 (by rfl) w.heap.size 5 i1 Try.underlying112 Try.underlying9 hj hy0 hy1 hy2 (.slice (some ⟨g2, 0, none⟩) (l.length + 1) cap2) (l.length + 1) (Lib.byteCells l ++ [.int .u8 49]) (by rfl) hown2 s (by rfl) HA.out.2.2.2.2.2.2.2.1 HA.out.2.2.2.2.2.2.2.2 hs2 ?_; intro v3 w3 hown3 hgrow3; have hcell3 := hc3.out w3 hgrow3))
      all_goals (
        obtain ⟨ao3, cap3, rfl⟩ := own_shape hown3
        have hbel3 := ((((hbel.alloc hBw (.cells #[.int .u8 49] 5 (0, 0))).drew).grown hgrow2 HA.out.2.2.2.2.1 (fun k hk => (hbo k hk).1)).grown hgrow3 hs2 (fun k hk => by simp only [Value.ownBlock, Option.some.injEq] at hk; omega))
        have hby3 : BytesAt 5 w3 w.heap.size ao3 cap3 (listL (ts.take (k + 1))) := by
          unfold BytesAt
          rw [HT.out.1]
          have e1 : (l ++ 49 :: E).length = l.length + 1 + s.size := by rw [List.length_append, List.length_cons, HT.out.2.2]; omega
          have e2 : Lib.byteCells (l ++ 49 :: E) = Lib.byteCells l ++ [.int .u8 49] ++ Lib.strCells s := by rw [HT.out.2.1]; simp [Lib.byteCells]
          rw [e1, e2]
          exact hown3
        have hlen3 : (listL (ts.take (k + 1))).length = l.length + 1 + s.size := by rw [HT.out.1, List.length_append, List.length_cons, HT.out.2.2]; omega
        have HH := Lib.hid (And.intro hby3 (And.intro hbel3 hlen3))
        clear hown2 hgrow2 hat2 hlt2 hby hbel hbel3 hby3 hown3 hgrow3 hcell2 hcell3 hc3 hlen3 hbo
        go_wp2_with fail
        go_roundw
        case rel => exact ⟨k + 1, listL (ts.take (k + 1)), ao3, cap3, by omega, by go_num, by rw [HH.out.2.2], rfl, HH.out.1, HH.out.2.1, HH.out.2.1.size⟩
        case measure => simp [intOf] <;> omega)
    · obtain rfl : k = ts.length := by omega
      rw [List.take_length] at hl
      unfold BytesAt at hby
      have Hl := Lib.hid hl
      clear hl hst hlt hk
      go_wp2_with (at_builtin; refine wpList_append_lies _ rfl _ _ 112 rfl w.heap.size 5 i1 _ 1 1 Try.underlying112 hj hy0 hy1 hy2 rfl (by decide) (.slice ao1 l.length cap1) l.length (Lib.byteCells l) rfl (hby.alloc _) ⟨wr.heap.size, 0, none⟩ 1 1 [.int .u8 48] rfl rfl (news1 (heap_alloc_new _ _)) (by simp; rfl) (by decide) (by unfold maxLen; omega) (by omega) (by simp; omega) (wr.heap.size + 1) (by simp) ?_)
      intro g2 cap2 w2 hown2 hgrow hat hlt2
      have hbel2 := (hbel.alloc hBw (.cells #[.int .u8 48] 5 (0, 0))).grown hgrow (by simp; omega) (fun k hk => (World.ownsRow.lt hby k hk).1)
      have hby2 : BytesAt 5 w2 w.heap.size (some ⟨g2, 0, none⟩) cap2 (l ++ [48]) := BytesAt.push rfl hown2
      have hconv := run_back (P := Try.prog) hby2 112 9 Try.underlying112 Try.underlying5 Try.underlying9 (by simp)
      have hl1 : (l ++ [(48 : UInt8)]).length = l.length + 1 := by simp
      rw [hl1] at hconv
      have Hc := Lib.hid hconv
      have hconv' := Hc.out
      clear hown2 hgrow hat hlt2 hby hby2 hbel hconv hl1
      go_wp2_with fail
      go_ret
      exact ⟨by rw [← Hl.out]; rfl, hbel2⟩

theorem codeT_len (l : List Ins) : (listL (l.map codeI)).length + 1 = (codeT l).size := by
  rw [← enc_len, ← listL_code]; simp

set_option maxRecDepth 100000 in
set_option maxHeartbeats 1500000 in
theorem code2_c (ao : Option Addr) (b o cap : Nat) (l : List Ins) (w : World) (hp : ProgIn w ao b o l) (hg : goodP 4000 2000000 l = true) :
    Calls Try.prog 103 #[.slice ao l.length cap] w fun e w' => e = .returned (.string (strB (enc (codeT l)))) ∧ Below w.heap.size w w' := by
  obtain ⟨i0, hi, hz0, hz1, hz2⟩ := info_parts strInfo
  have hl4 := goodP_len hg
  have hcs := codeT_size_good (by decide) hg
  have hok := fun k hk => (goodP_ins hg k hk).1
  have hlc := codeT_len l
  have hlen : (listL (l.map codeI)).length ≤ 100000000 := by omega
  have hfin := listL_code l
  have Hok := Lib.hid hok
  have Hfin := Lib.hid hfin
  clear hok hfin hg
  go_enter Try.func103, Try.ntmps103
  go_wp2_with fail
  go_loopw [3, 4] (fun v i wr => ∃ (k : Nat) (ts : List T) (ao1 : Option Addr) (cap1 : Nat), k ≤ l.length ∧ i = .int .i64 k ∧ v = .slice ao1 ts.length cap1 ∧ ts = (l.take k).map codeI ∧ StrsAt wr w.heap.size ao1 cap1 ts ∧ Below w.heap.size w wr ∧ w.heap.size ≤ wr.heap.size) (fun _ i _ => l.length - (intOf i).toNat)
  case atStart => exact ⟨0, [], none, 0, Nat.zero_le _, rfl, rfl, rfl, World.ownsRow_nil _ _ _ _, Below.refl _ _, Nat.le_refl _⟩
  case round =>
    obtain ⟨k, ts, ao1, cap1, hk, rfl, rfl, hts, hst, hbel, hBw⟩ := hrel
    have htl : ts.length = k := by rw [hts]; simp; omega
    by_cases hlt : k < l.length
    · have hi2 := (hp.ins k hlt).below hbel (hp.lt (by intro e; subst e; simp at hlt))
      have hI := Hok.out k hlt
      obtain rfl := hp.at_ (by intro e; subst e; simp at hlt)
      have htk : (l.take (k + 1)).map codeI = ts ++ [codeI (l.getD k default)] := by
        rw [take_ins l k hlt, List.map_append, ← hts]; rfl
      generalize l.getD k default = x at *
      obtain ⟨c0, c1, c2, c3, c4⟩ := hi2
      have hc := fun w => codeOf_c x (k : Int) (l.length : Int) w hI (by omega) (by omega) (by omega)
      have hcons : ts.map (fun t => Value.string (strB (enc t))) ++ [Value.string (strB (enc (codeI x)))] = (ts ++ [codeI x]).map (fun t => Value.string (strB (enc t))) := by simp
      have hll : ts.length ≤ 4000 := by omega
      have k1 : (k : Int) < (l.length : Int) := by omega
      unfold StrsAt at hst
      generalize hxs : ts.map (fun t => Value.string (strB (enc t))) = xs at *
      generalize hsx : strB (enc (codeI x)) = sx at *
      have Hc := Lib.hid hc
      have HT := Lib.hid (And.intro htk hcons)
      clear hc htk hcons hI hts htl hsx hxs
      go_wp2_with fail
      refine (Hc.out _).mono ?_
      rintro e w1 ⟨rfl, hb1⟩
      have hst1 := rowKeep hst (KeepTy.below hb1)
      have hbel1 := hbel.trans (hb1.mono hBw)
      have hB1 := hbel1.size
      clear hst hbel hb1 Hc c0 c1 c2 c3 c4
      go_wp2_with (at_builtin; refine wpList_append_lies _ rfl _ _ 148 rfl w.heap.size 9 i0 _ 1 16 Try.underlying148 hi hz0 hz1 hz2 rfl (by decide) (.slice ao1 ts.length cap1) ts.length xs rfl (hst1.alloc _) ⟨w1.heap.size, 0, none⟩ 1 1 [.string sx] rfl rfl (news1 (heap_alloc_new _ _)) (by simp; rfl) (by decide) (by unfold maxLen; omega) (by omega) (by simp; omega) (w1.heap.size + 1) (by simp) ?_)
      intro g2 cap2 w2 hown2 hgrow hat hlt2
      have hbel2 := (hbel1.alloc hB1 (.cells #[.string sx] 9 (0, 0))).grown hgrow (by simp; omega) (fun k hk => (hst1.lt k hk).1)
      have HH := Lib.hid (And.intro hown2 hbel2)
      clear hown2 hgrow hat hlt2 hst1 hbel1 hbel2
      go_wp2_with fail
      go_roundw
      case rel => exact ⟨k + 1, ts ++ [codeI x], some ⟨g2, 0, none⟩, cap2, by omega, by go_num, by simp, HT.out.1.symm, by unfold StrsAt; rw [← HT.out.2, List.length_append]; exact HH.out.1, HH.out.2, HH.out.2.size⟩
      case measure => simp [intOf] <;> omega
    · obtain rfl : k = l.length := by omega
      rw [List.take_length] at hts
      subst hts
      have hc := list1_c ao1 cap1 w.heap.size (l.map codeI) wr hst (by simp; omega) hlen
      rw [Hfin.out, List.length_map] at hc
      have Hc := Lib.hid hc
      clear hc hst
      go_wp2_with fail
      ((with_reducible refine (Hc.out).mono ?_); rintro e w1 ⟨rfl, hb1⟩)
      go_wp2_with fail
      go_ret
      exact ⟨rfl, hbel.trans (hb1.mono hBw)⟩

/-- an instruction as the reference reads it -/
def rawI (t : T) : Ins :=
  if numI t.hd = 0 then ⟨numI t.hd, numI t.tl.hd, 0, 0, strB (enc t.tl.tl)⟩
  else if numI t.hd = 1 ∨ numI t.hd = 3 ∨ numI t.hd = 4 then ⟨numI t.hd, numI t.tl.hd, numI t.tl.tl, 0, ⟨#[]⟩⟩
  else if numI t.hd = 2 then ⟨numI t.hd, numI t.tl.hd, numI t.tl.tl.hd, numI t.tl.tl.tl, ⟨#[]⟩⟩
  else if numI t.hd = 5 then ⟨numI t.hd, numI t.tl.hd, if t.tl.tl.hd.isNil then numI t.tl.tl.tl else - numI t.tl.tl.tl, 0, ⟨#[]⟩⟩
  else ⟨numI t.hd, numI t.tl.hd, 0, 0, ⟨#[]⟩⟩

theorem rawI_eq (t : T) : rawI t =
  if numI t.hd = 0 then ⟨numI t.hd, numI t.tl.hd, 0, 0, strB (enc t.tl.tl)⟩
  else if numI t.hd = 1 ∨ numI t.hd = 3 ∨ numI t.hd = 4 then ⟨numI t.hd, numI t.tl.hd, numI t.tl.tl, 0, ⟨#[]⟩⟩
  else if numI t.hd = 2 then ⟨numI t.hd, numI t.tl.hd, numI t.tl.tl.hd, numI t.tl.tl.tl, ⟨#[]⟩⟩
  else if numI t.hd = 5 then ⟨numI t.hd, numI t.tl.hd, if t.tl.tl.hd.isNil then numI t.tl.tl.tl else - numI t.tl.tl.tl, 0, ⟨#[]⟩⟩
  else ⟨numI t.hd, numI t.tl.hd, 0, 0, ⟨#[]⟩⟩ := rfl

theorem numI_numT (n : Nat) : numI (numT n) = n := by simp [numI, optI, numOf_numT]

theorem rawI_codeI {chars i n : Int} {x : Ins} (h : insOk chars i n x = true) : rawI (codeI x) = x := by
  have h' := h
  simp only [insOk, Bool.and_eq_true] at h'
  obtain ⟨⟨⟨_, htree⟩, hcz⟩, hrest⟩ := h'
  have htr := fun h0 => ins_tree h h0
  obtain ⟨⟨na, ha, hna⟩, hc⟩ := insOk_cases h
  have hcodeI : codeI x = .node (numT x.op.toNat) (.node (numT x.a.toNat) (codeR x)) := rfl
  have h1 : numI (codeI x).hd = x.op.toNat := by rw [hcodeI]; exact numI_numT _
  have h2 : numI (codeI x).tl.hd = x.a.toNat := by rw [hcodeI]; exact numI_numT _
  have h3 : (codeI x).tl.tl = codeR x := rfl
  have hop : ((x.op.toNat : Nat) : Int) = x.op := by rcases hc with ⟨h, _⟩ | ⟨h, _⟩ | ⟨h, _⟩ | ⟨h, _⟩ <;> omega
  have hA : ((x.a.toNat : Nat) : Int) = x.a := by omega
  unfold rawI
  rw [h1, h2, h3, hop, hA]
  clear h1 h2 h3 hop hA hcodeI
  obtain ⟨op, a, b, c, tree⟩ := x
  simp only at *
  rcases hc with ⟨rfl, ht⟩ | ⟨hop, nb, rfl, hb2⟩ | ⟨rfl, ⟨nb, rfl, hb2⟩, nc, rfl, hc2⟩ | ⟨rfl, h3, h4⟩
  · have hc0 : c = 0 := by simpa using hcz
    have hb0 : b = 0 := by simp at hrest; exact hrest.2
    subst hc0 hb0
    rw [if_pos rfl]
    have e : codeR ⟨0, a, 0, 0, tree⟩ = setT ⟨0, a, 0, 0, tree⟩ := by simp [codeR]
    rw [e, ← htr rfl]
  · have hop2 : op ≠ 0 ∧ op ≠ 2 ∧ op ≠ 5 := by omega
    have hc0 : c = 0 := by simpa [hop2.2.1] using hcz
    have ht0 : tree = ⟨#[]⟩ := size_zero (by simpa [hop2.1] using htree)
    subst hc0 ht0
    rw [if_neg hop2.1, if_pos hop]
    have e : codeR ⟨op, a, nb, 0, ⟨#[]⟩⟩ = numT nb := by
      unfold codeR
      simp only
      rw [if_neg hop2.1, if_neg hop2.2.1, if_neg hop2.2.2]; rfl
    rw [e, numI_numT]
  · have ht0 : tree = ⟨#[]⟩ := size_zero (by simpa using htree)
    subst ht0
    have e : codeR ⟨2, a, nb, nc, ⟨#[]⟩⟩ = .node (numT nb) (numT nc) := by simp [codeR]
    rw [if_neg (by decide), if_neg (by decide), if_pos rfl, e]
    simp only [T.hd, T.tl, numI_numT]
  · have ht0 : tree = ⟨#[]⟩ := size_zero (by simpa using htree)
    have hc0 : c = 0 := by simpa using hcz
    subst ht0 hc0
    rw [if_neg (by decide), if_neg (by decide), if_neg (by decide), if_pos rfl]
    by_cases hneg : b < 0
    · have e : codeR ⟨5, a, b, 0, ⟨#[]⟩⟩ = .node (numT 1) (numT (-b).toNat) := by simp [codeR, hneg]
      rw [e]
      have h1 : ((-b).toNat : Int) = -b := by omega
      simp only [T.hd, T.tl, numI_numT, h1, numT, T.isNil]
      simp
    · have e : codeR ⟨5, a, b, 0, ⟨#[]⟩⟩ = .node .nil (numT b.toNat) := by simp [codeR, hneg]
      rw [e]
      have h1 : (b.toNat : Int) = b := by omega
      simp only [T.hd, T.tl, numI_numT, h1, T.isNil]
      simp

theorem raw_codes (chars n : Int) : ∀ (l : List Ins) (i : Nat) (all : Int), goodTo chars n i all l = true → (l.map codeI).map rawI = l
  | [], _, _, _ => rfl
  | x :: l, i, all, h => by
    simp only [goodTo, Bool.and_eq_true] at h
    obtain ⟨⟨_, h2⟩, h3⟩ := h
    rw [List.map_cons, List.map_cons, rawI_codeI h2, raw_codes chars n l (i + 1) _ h3]

theorem decP_raw {t : T} {l : List Ins} (h : decP t = some l) : t.items.map rawI = l := by
  obtain ⟨h1, h2⟩ := decP_code h
  rw [← h1, codeT_items]
  simp only [goodP, Bool.and_eq_true] at h2
  exact raw_codes _ _ l 0 0 h2.2

instance : DecidableEq T := fun a b => decidable_of_iff (enc a = enc b) ⟨fun h => enc_inj h, fun h => congrArg enc h⟩

theorem decP_is (t : T) : decP t = if 4000 < t.items.length then none else if goodP 4000 2000000 (t.items.map rawI) = true ∧ codeT (t.items.map rawI) = t then some (t.items.map rawI) else none := by
  by_cases hb : 4000 < t.items.length
  · rw [if_pos hb]; unfold decP; rw [if_pos hb]
  · rw [if_neg hb]
    by_cases hg : goodP 4000 2000000 (t.items.map rawI) = true ∧ codeT (t.items.map rawI) = t
    · rw [if_pos hg]
      exact decP_iff.2 ⟨hg.2, hg.1⟩
    · rw [if_neg hg]
      cases hd : decP t with
      | none => rfl
      | some l =>
        have h1 := decP_raw hd
        have h2 := decP_code hd
        rw [← h1] at h2
        exact absurd ⟨h2.2, h2.1⟩ hg

theorem hd_le (t : T) : t.hd.size ≤ t.size := by cases t <;> simp [T.hd, T.size]; omega
theorem tl_le (t : T) : t.tl.size ≤ t.size := by cases t <;> simp [T.tl, T.size]

theorem numI_bound (t : T) : -1 ≤ numI t ∧ numI t ≤ t.size := by
  unfold numI
  cases h : numOf t with
  | none => simp [optI]
  | some n =>
    have := numOf_some h
    have h2 := congrArg T.size this
    rw [numT_size] at h2
    simp [optI]; omega

theorem isNil_enc (t : T) : ((strB (enc t)).toList != [48]) = !t.isNil := by
  rw [toList_strB]
  cases t with
  | nil => rfl
  | node a b =>
    obtain ⟨c, r, h⟩ := enc_hd a
    simp [enc, h, T.isNil]

def Dec2Post (w : World) (r : Option (List Ins)) (e : Ending) (w' : World) : Prop :=
  (∃ ao cap l, e = .returned (.tuple #[.slice ao l.length cap, .bool r.isSome]) ∧ (∀ m, r = some m → m = l) ∧ OwnProg w' w.heap.size ao cap l ∧ (∀ x ∈ l, x.tree.size ≤ 2000000)) ∧ Below w.heap.size w w'

theorem rawI_tree (t : T) : (rawI t).tree.size ≤ t.size := by
  have h1 := tl_le t
  have h2 := tl_le t.tl
  have h3 := t.size_pos
  have e0 : (⟨#[]⟩ : ByteArray).size = 0 := rfl
  unfold rawI
  split
  · show (strB (enc t.tl.tl)).size ≤ _
    rw [strB_size, enc_len]; omega
  · split
    · show (⟨#[]⟩ : ByteArray).size ≤ _; omega
    · split
      · show (⟨#[]⟩ : ByteArray).size ≤ _; omega
      · split
        · show (⟨#[]⟩ : ByteArray).size ≤ _; omega
        · show (⟨#[]⟩ : ByteArray).size ≤ _; omega

set_option maxRecDepth 100000 in
set_option maxHeartbeats 3000000 in
theorem decode2_c (t : T) (w : World) (ht : t.size ≤ 2000000) : Calls Try.prog 99 #[.string (strB (enc t))] w (Dec2Post w (decP t)) := by
  have hit := items1_c t w ht
  have hsz : ∀ u ∈ t.items, u.size ≤ 2000000 := fun u hu => Nat.le_trans (item_size t u hu) ht
  have hln : t.items.length ≤ 2000000 := by have := spine_size t; rw [items_len]; omega
  rw [decP_is]
  have hfin : ∀ l, (decide (codeT l = t)) = ((strB (enc (codeT l))).toList == (strB (enc t)).toList) := by
    intro l
    rw [Bool.eq_iff_iff, decide_eq_true_eq, beq_iff_eq, toList_strB, toList_strB]
    exact ⟨fun h => by rw [h], fun h => enc_inj h⟩
  have hD : ∃ D : Option (List Ins), (if goodP 4000 2000000 (t.items.map rawI) = true ∧ codeT (t.items.map rawI) = t then some (t.items.map rawI) else none) = D := ⟨_, rfl⟩
  obtain ⟨D, hD⟩ := hD
  have hD1 : D.isSome = (goodP 4000 2000000 (t.items.map rawI) && decide (codeT (t.items.map rawI) = t)) := by
    rw [← hD, Bool.eq_iff_iff, Bool.and_eq_true, decide_eq_true_eq]
    split
    · rename_i h; simp [h]
    · rename_i h
      constructor
      · intro h2; simp at h2
      · intro h2; exact absurd h2 h
  have hD2 : ∀ m, D = some m → m = t.items.map rawI := by
    intro m hm
    rw [← hD] at hm
    split at hm
    · simpa using hm.symm
    · cases hm
  rw [hD]
  rw [hfin] at hD1
  clear hfin hD
  unfold Items1Post at hit
  generalize t.items = its at *
  generalize strB (enc t) = s at *
  have Hit := Lib.hid hit
  have HD := Lib.hid (And.intro hD1 hD2)
  clear hit ht hD1 hD2
  by_cases hbig : 4000 < its.length
  · rw [if_pos hbig]
    have hbi : (4000 : Int) < (its.length : Int) := by omega
    clear hbig
    go_enter Try.func99, Try.ntmps99
    go_wp2_with fail
    refine Hit.out.mono ?_
    rintro e w1 ⟨⟨ao, cap, rfl, _⟩, hb⟩
    go_wp2_with fail
    go_ret2
    exact ⟨⟨none, 0, [], rfl, fun m hm => by (cases hm), World.ownsRow_nil _ _ _ _, by simp⟩, hb⟩
  · rw [if_neg hbig]
    have hsm : (its.length : Int) ≤ 4000 := by omega
    have Hsz := Lib.hid hsz
    clear hbig hsz
    obtain ⟨i0, hi, hz0, hz1, hz2⟩ := info_parts Try.info57
    go_enter Try.func99, Try.ntmps99
    go_wp2_with fail
    refine Hit.out.mono ?_
    rintro e w1 ⟨⟨aoi, capi, rfl, hst⟩, hb⟩
    have hB1 := hb.size
    clear Hit
    go_wp2_with fail
    go_loopw [5, 6] (fun p i wr => ∃ (l : List Ins) (ao : Option Addr) (cap : Nat), p = .slice ao l.length cap ∧ i = .int .i64 l.length ∧ l.length ≤ its.length ∧ l = (its.take l.length).map rawI ∧ OwnProg wr w.heap.size ao cap l ∧ (∀ x ∈ l, x.tree.size ≤ 2000000) ∧ StrsAt wr w.heap.size aoi capi its ∧ Below w.heap.size w wr ∧ w.heap.size ≤ wr.heap.size) (fun _ i _ => its.length - (intOf i).toNat)
    case atStart => exact ⟨[], none, 0, rfl, rfl, Nat.zero_le _, rfl, World.ownsRow_nil _ _ _ _, by simp, hst, hb, hB1⟩
    case round =>
      obtain ⟨l, ao, cap, rfl, rfl, hk, hl, hown, hxs, hst2, hbel, hBw⟩ := hrel
      clear hst hb hB1
      by_cases hlt : l.length < its.length
      · obtain ⟨gi, rfl, hgi, c0⟩ := hst2.cell l.length hlt
        have hu := Hsz.out _ (getD_t its l.length hlt)
        have htk : (its.take (l.length + 1)).map rawI = l ++ [rawI (its.getD l.length .nil)] := by
          have : its.take (l.length + 1) = its.take l.length ++ [its.getD l.length .nil] := by
            rw [List.take_succ_eq_append_getElem hlt]; simp [hlt]
          rw [this, List.map_append, ← hl]; rfl
        have hxu := Nat.le_trans (rawI_tree (its.getD l.length .nil)) hu
        generalize its.getD l.length .nil = u at *
        have k1 : (0 : Int) ≤ (l.length : Int) := by omega
        have k2 : (l.length : Int) < (its.length : Int) := by omega
        have hll : l.length ≤ 4000 := by omega
        have z1 := hd_le u
        have z2 := tl_le u
        have z3 := hd_le u.tl
        have z4 := tl_le u.tl
        have z5 := hd_le u.tl.tl
        have z6 := tl_le u.tl.tl
        have Ht1 := Lib.hid (fun w => tail1_c u w hu)
        have Hh1 := Lib.hid (fun w => head1_c u w hu)
        have Hv1 := Lib.hid (fun w => value1_c u.hd w (by omega))
        have Hh2 := Lib.hid (fun w => head1_c u.tl w (by omega))
        have Hv2 := Lib.hid (fun w => value1_c u.tl.hd w (by omega))
        have Ht2 := Lib.hid (fun w => tail1_c u.tl w (by omega))
        have Hvr := Lib.hid (fun w => value1_c u.tl.tl w (by omega))
        have Hhr := Lib.hid (fun w => head1_c u.tl.tl w (by omega))
        have Htr := Lib.hid (fun w => tail1_c u.tl.tl w (by omega))
        have Hvrh := Lib.hid (fun w => value1_c u.tl.tl.hd w (by omega))
        have Hvrt := Lib.hid (fun w => value1_c u.tl.tl.tl w (by omega))
        have hnb := numI_bound u.tl.tl.tl
        have hnil := isNil_enc u.tl.tl.hd
        have hraw := rawI_eq u
        have HX := Lib.hid (And.intro htk hxu)
        clear htk hxu hl
        generalize numI u.hd = o at *
        generalize numI u.tl.hd = a at *
        generalize numI u.tl.tl = b at *
        generalize numI u.tl.tl.hd = b1 at *
        generalize numI u.tl.tl.tl = b2 at *
        generalize u.tl.tl.hd.isNil = nl at *
        generalize strB (enc u.tl.tl.tl) = srt at *
        generalize strB (enc u.tl.tl.hd) = srh at *
        generalize strB (enc u.tl.tl) = sr at *
        generalize strB (enc u.tl.hd) = sbh at *
        generalize strB (enc u.tl) = sb at *
        generalize strB (enc u.hd) = sh at *
        generalize strB (enc u) = su at *
        have hz3 : u.tl.tl.tl.size ≤ 2000000 := by omega
        have hnb1 : -1 ≤ b2 := hnb.1
        have hnb2 : b2 ≤ 2000000 := by have := hnb.2; omega
        clear hnb
        generalize rawI u = X at *
        have HR := Lib.hid hraw
        have Hnil := Lib.hid hnil
        clear hraw hnil z1 z2 z3 z4 z5 z6 hz3 hu
        go_wp2_with fail
        refine (Ht1.out _).mono ?_
        rintro e y1 ⟨rfl, rfl⟩
        go_wp2_with fail
        refine (Hh1.out _).mono ?_
        rintro e y2 ⟨rfl, rfl⟩
        go_wp2_with fail
        refine (Hv1.out _).mono ?_
        rintro e y3 ⟨rfl, rfl⟩
        go_wp2_with fail
        refine (Hh2.out _).mono ?_
        rintro e y4 ⟨rfl, rfl⟩
        go_wp2_with fail
        refine (Hv2.out _).mono ?_
        rintro e y5 ⟨rfl, rfl⟩
        go_wp2_with fail
        have hx0 : InsBlk (wr.alloc (.cells #[.int .i64 o, .int .i64 a, .int .i64 0, .int .i64 0, .string ⟨#[]⟩] 57 (0, 0))) wr.heap.size ⟨o, a, 0, 0, ⟨#[]⟩⟩ := heap_alloc_new _ _
        have hgG : wr.heap.size < (wr.alloc (.cells #[.int .i64 o, .int .i64 a, .int .i64 0, .int .i64 0, .string ⟨#[]⟩] 57 (0, 0))).heap.size := by simp
        have hbw := (Below.refl wr.heap.size wr).alloc (Nat.le_refl _) (.cells #[.int .i64 o, .int .i64 a, .int .i64 0, .int .i64 0, .string ⟨#[]⟩] 57 (0, 0))
        have hlo := fun k hk => (hown.lt k hk).2
        have hls := fun k hk => (hst2.lt k hk).2
        refine (Ht2.out _).mono ?_
        rintro e y6 ⟨rfl, rfl⟩
        generalize wr.alloc (.cells #[.int .i64 o, .int .i64 a, .int .i64 0, .int .i64 0, .string ⟨#[]⟩] 57 (0, 0)) = wx at *
        generalize wr.heap.size = G at *
        obtain ⟨d0, d1, d2, d3, d4⟩ := hx0.cells
        have f2 := hx0.frozen 2
        have f3 := hx0.frozen 3
        have f4 := hx0.frozen 4
        have HXx := Lib.hid hx0
        have HF := Lib.hid (And.intro hown (And.intro hst2 (And.intro hbel (And.intro hbw (And.intro hlo (And.intro hls hxs))))))
        clear hx0 hown hst2 hbel hbw hlo hls hxs Ht1 Hh1 Hv1 Hh2 Hv2 Ht2 hgi
        go_upto_block 2 with fail
        go_cut [9] (fun s9 wc => s9 = .string sr ∧ InsBlk wc G X ∧ Below G wx wc)
        case first =>
          by_cases h0 : o = 0
          · subst h0
            have hX : X = ⟨0, a, 0, 0, sr⟩ := by rw [HR.out]; simp
            have HH := Lib.hid (show InsBlk (wx.setCell ⟨G, 4, none⟩ (.string sr)) G X by rw [hX]; exact HXx.out.setT sr)
            have HB := Lib.hid ((Below.refl G wx).setCell (p := ⟨G, 4, none⟩) (Nat.le_refl _) (.string sr))
            clear hX
            go_wp2_with fail
            go_meet
            exact ⟨rfl, HH.out, HB.out⟩
          · have o0 : (o == 0) = false := by simp [h0]
            by_cases h134 : o = 1 ∨ o = 3 ∨ o = 4
            · have hX : X = ⟨o, a, b, 0, ⟨#[]⟩⟩ := by rw [HR.out, if_neg h0, if_pos h134]
              have HH := Lib.hid (show InsBlk (wx.setCell ⟨G, 2, none⟩ (.int .i64 b)) G X by rw [hX]; exact HXx.out.setB b)
              have HB := Lib.hid ((Below.refl G wx).setCell (p := ⟨G, 2, none⟩) (Nat.le_refl _) (.int .i64 b))
              clear hX
              rcases h134 with h | h | h
              · subst h
                clear h0 o0
                go_wp2_with fail
                refine (Hvr.out _).mono ?_
                rintro e y7 ⟨rfl, rfl⟩
                go_wp2_with fail
                go_meet
                exact ⟨rfl, HH.out, HB.out⟩
              · subst h
                clear h0 o0
                go_wp2_with fail
                refine (Hvr.out _).mono ?_
                rintro e y7 ⟨rfl, rfl⟩
                go_wp2_with fail
                go_meet
                exact ⟨rfl, HH.out, HB.out⟩
              · subst h
                clear h0 o0
                go_wp2_with fail
                refine (Hvr.out _).mono ?_
                rintro e y7 ⟨rfl, rfl⟩
                go_wp2_with fail
                go_meet
                exact ⟨rfl, HH.out, HB.out⟩
            · have o1 : (o == 1) = false := by simp; omega
              have o3 : (o == 3) = false := by simp; omega
              have o4 : (o == 4) = false := by simp; omega
              by_cases h2 : o = 2
              · subst h2
                have hX : X = ⟨2, a, b1, b2, ⟨#[]⟩⟩ := by rw [HR.out]; simp
                have HH := Lib.hid (show InsBlk ((wx.setCell ⟨G, 2, none⟩ (.int .i64 b1)).setCell ⟨G, 3, none⟩ (.int .i64 b2)) G X by rw [hX]; exact (HXx.out.setB b1).setC b2)
                have HB := Lib.hid (((Below.refl G wx).setCell (p := ⟨G, 2, none⟩) (Nat.le_refl _) (.int .i64 b1)).setCell (p := ⟨G, 3, none⟩) (Nat.le_refl _) (.int .i64 b2))
                clear hX h134 o1 o3 o4 h0 o0
                go_wp2_with fail
                refine (Hhr.out _).mono ?_
                rintro e y7 ⟨rfl, rfl⟩
                go_wp2_with fail
                refine (Hvrh.out _).mono ?_
                rintro e y8 ⟨rfl, rfl⟩
                go_wp2_with fail
                refine (Htr.out _).mono ?_
                rintro e y9 ⟨rfl, rfl⟩
                go_wp2_with fail
                refine (Hvrt.out _).mono ?_
                rintro e y10 ⟨rfl, rfl⟩
                go_wp2_with fail
                go_meet
                exact ⟨rfl, HH.out, HB.out⟩
              · have o2 : (o == 2) = false := by simp; omega
                by_cases h5 : o = 5
                · subst h5
                  have hX : X = ⟨5, a, if nl then b2 else -b2, 0, ⟨#[]⟩⟩ := by rw [HR.out]; simp
                  have HXr := Lib.hid hX
                  clear hX h134 o1 o3 o4 h0 o0 o2 h2
                  cases nl with
                  | true =>
                    have hq : (srh.toList == [48]) = true := by have := Hnil.out; simpa using this
                    have HH := Lib.hid (show InsBlk (wx.setCell ⟨G, 2, none⟩ (.int .i64 b2)) G X by rw [HXr.out]; exact HXx.out.setB b2)
                    have HB := Lib.hid ((Below.refl G wx).setCell (p := ⟨G, 2, none⟩) (Nat.le_refl _) (.int .i64 b2))
                    go_wp2_with fail
                    refine (Htr.out _).mono ?_
                    rintro e y9 ⟨rfl, rfl⟩
                    go_wp2_with fail
                    refine (Hvrt.out _).mono ?_
                    rintro e y10 ⟨rfl, rfl⟩
                    go_wp2_with fail
                    refine (Hhr.out _).mono ?_
                    rintro e y7 ⟨rfl, rfl⟩
                    go_wp2_with fail
                    go_meet
                    exact ⟨rfl, HH.out, HB.out⟩
                  | false =>
                    have hq : (srh.toList == [48]) = false := by have := Hnil.out; simpa using this
                    have HH := Lib.hid (show InsBlk ((wx.setCell ⟨G, 2, none⟩ (.int .i64 b2)).setCell ⟨G, 2, none⟩ (.int .i64 (-b2))) G X by rw [HXr.out]; exact (HXx.out.setB b2).setB (-b2))
                    have HB := Lib.hid (((Below.refl G wx).setCell (p := ⟨G, 2, none⟩) (Nat.le_refl _) (.int .i64 b2)).setCell (p := ⟨G, 2, none⟩) (Nat.le_refl _) (.int .i64 (-b2)))
                    have e2 : (wx.setCell ⟨G, 2, none⟩ (.int .i64 b2)).cell? ⟨G, 2, none⟩ = some (.int .i64 b2) := (HXx.out.setB b2).cells.2.2.1
                    have e2f := (HXx.out.setB b2).frozen 2
                    go_wp2_with fail
                    refine (Htr.out _).mono ?_
                    rintro e y9 ⟨rfl, rfl⟩
                    go_wp2_with fail
                    refine (Hvrt.out _).mono ?_
                    rintro e y10 ⟨rfl, rfl⟩
                    go_wp2_with fail
                    refine (Hhr.out _).mono ?_
                    rintro e y7 ⟨rfl, rfl⟩
                    go_wp2_with fail
                    go_meet
                    exact ⟨rfl, HH.out, HB.out⟩
                · have o5 : (o == 5) = false := by simp; omega
                  have hX : X = ⟨o, a, 0, 0, ⟨#[]⟩⟩ := by rw [HR.out, if_neg h0, if_neg h134, if_neg h2, if_neg h5]
                  have HH := Lib.hid (show InsBlk wx G X by rw [hX]; exact HXx.out)
                  clear hX
                  go_wp2_with fail
                  go_meet
                  exact ⟨rfl, HH.out, Below.refl G wx⟩
        case rest =>
          obtain ⟨rfl, hxz, hbz0⟩ := hcut
          clear d0 d1 d2 d3 d4 f2 f3 f4
          obtain ⟨hown, hst2, hbel, hbw, hlo, hls, hxs⟩ := HF.out
          have hgc := Nat.lt_of_lt_of_le hgG hbz0.size
          have hbz := hbw.trans hbz0
          obtain ⟨e0, e1, e2, e3, e4⟩ := hxz.cells
          have hownz := rowKeepB hown hbz hlo
          have hstz := rowKeepB hst2 hbz hls
          have hbelz := hbel.trans (hbz.mono hBw)
          have Hz := Lib.hid (And.intro hstz (And.intro hbelz hxs))
          clear hown hst2 hbel hbw hlo hls hxs hstz hbelz hbz hbz0 hxz HF
          go_wp2_with (at_builtin; refine wpList_append_lies _ rfl _ _ 43 rfl w.heap.size 57 i0 _ 5 48 Try.underlying43 hi hz0 hz1 hz2 rfl (by decide) (.slice ao l.length cap) l.length (l.flatMap Ins.cells) rfl (hownz.alloc _) ⟨wc.heap.size, 0, none⟩ 1 1 X.cells rfl rfl (World.news_of_block (heap_alloc_new _ _)) (by simp [Ins.cells, Value.oneCell']) (by decide) (by unfold maxLen; omega) (by omega) (by simp; omega) (wc.heap.size + 1) (by simp) ?_)
          intro g2 cap2 w7 hown7 hgrow hat hlt2
          obtain ⟨hstz, hbelz, hxs⟩ := Hz.out
          have hBz : w.heap.size ≤ wc.heap.size := by omega
          have hst7 : StrsAt w7 w.heap.size (some ⟨gi, 0, none⟩) capi its := rowKeep (World.ownsRow.alloc hstz _) (KeepTy.grown (by decide) (World.ownsRow.alloc hownz (.cells #[.int .i64 X.op, .int .i64 X.a, .int .i64 X.b, .int .i64 X.c, .string X.tree] 57 (0, 0))) hgrow)
          have hbel7 := (hbelz.alloc hBz (.cells #[.int .i64 X.op, .int .i64 X.a, .int .i64 X.b, .int .i64 X.c, .string X.tree] 57 (0, 0))).grown hgrow (by simp; omega) (fun k hk => (hownz.lt k hk).1)
          have hown8 : OwnProg w7 w.heap.size (some ⟨g2, 0, none⟩) cap2 (l ++ [X]) := by
            unfold OwnProg
            rw [List.length_append, List.flatMap_append]
            simpa using hown7
          have hsz7 : w.heap.size ≤ w7.heap.size := hbel7.size
          have hxs8 : ∀ x ∈ l ++ [X], x.tree.size ≤ 2000000 := by
            intro x hx
            rcases List.mem_append.1 hx with hx | hx
            · exact hxs x hx
            · simp only [List.mem_singleton] at hx; subst hx; exact HX.out.2
          have htk2 : l ++ [X] = (its.take (l ++ [X]).length).map rawI := by rw [List.length_append]; exact HX.out.1.symm
          have HA := Lib.hid (And.intro hst7 (And.intro hbel7 (And.intro hown8 (And.intro hsz7 (And.intro hxs8 htk2)))))
          clear hst7 hbel7 hown8 hsz7 hxs8 htk2 hstz hbelz hownz hown7 hgrow hat hlt2 Hz hxs
          go_wp2_with fail
          go_roundw
          case rel => exact ⟨l ++ [X], some ⟨g2, 0, none⟩, cap2, by simp, by rw [List.length_append]; go_num, by rw [List.length_append]; show l.length + 1 ≤ _; omega, HA.out.2.2.2.2.2, HA.out.2.2.1, HA.out.2.2.2.2.1, HA.out.1, HA.out.2.1, HA.out.2.2.2.1⟩
          case measure => simp [intOf] <;> omega
      · have hkk : l.length = its.length := by omega
        rw [hkk, List.take_length] at hl
        have HL := Lib.hid hl
        obtain ⟨hD1, hD2⟩ := HD.out
        rw [← HL.out] at hD1 hD2
        obtain ⟨b, hpi, _⟩ := hown.progIn (fun x hx => Nat.le_trans (hxs x hx) (by decide))
        have hv := valid2_c ao b 0 cap l wr hpi
        have HO := Lib.hid (And.intro hown (And.intro hxs hD2))
        have k2 : (its.length : Int) ≤ (l.length : Int) := by omega
        cases hg : goodP 4000 2000000 l with
        | false =>
          rw [hg] at hv
          rw [hg, Bool.false_and] at hD1
          have Hv := Lib.hid hv
          have HD1 := Lib.hid hD1
          clear hv hg hl hkk hD1 hD2 hown hxs hpi hst2
          go_wp2_with fail
          refine Hv.out.mono ?_
          rintro e w2 ⟨rfl, hb2⟩
          go_wp2_with fail
          go_ret2
          exact ⟨⟨ao, cap, l, by rw [HD1.out]; rfl, HO.out.2.2, rowKeep HO.out.1 (KeepTy.below hb2), HO.out.2.1⟩, hbel.trans (hb2.mono hBw)⟩
        | true =>
          rw [hg] at hv
          rw [hg, Bool.true_and] at hD1
          have hc := fun w hp => code2_c ao b 0 cap l w hp hg
          generalize strB (enc (codeT l)) = sc at *
          have Hv := Lib.hid hv
          have HD1 := Lib.hid hD1
          have Hc := Lib.hid hc
          clear hv hg hl hkk hD1 hD2 hown hxs hst2 hc
          go_wp2_with fail
          refine Hv.out.mono ?_
          rintro e w2 ⟨rfl, hb2⟩
          have hp2 := hpi.below hb2
          go_wp2_with fail
          refine (Hc.out _ hp2).mono ?_
          rintro e w3 ⟨rfl, hb3⟩
          have hb23 := hb2.trans (hb3.mono hb2.size)
          go_wp2_with fail
          go_ret2
          exact ⟨⟨ao, cap, l, by rw [HD1.out]; rfl, HO.out.2.2, rowKeep HO.out.1 (KeepTy.below hb23), HO.out.2.1⟩, hbel.trans (hb23.mono hBw)⟩

end Go.Proofs.Ythmnbciefpkpmaa
