/- Contracts of the package narcissustop: text, equal, number. -/
import Derived.Test.YthmnbciefpkpmaaTopGrow
import Derived.Test.YthmnbciefpkpmaaBase2
import Derived.Deep.LoopGhost
namespace Go.Proofs.Ythmnbciefpkpmaa
open Go.RowKit

theorem Try.info5 : (Try.prog.info? 5).map (fun i => (i.zero, i.size, i.bytes)) = some (some (.int .u8 0), 1, 1) := by kernel_rfl

attribute [local go_sem ↓] Go.wp_at_zero Go.wp_at_succ
set_option maxRecDepth 100000 in
set_option maxHeartbeats 2000000 in
theorem text_c (p : Option Addr) (t : T) (w : World) (h : Tr 171 w t p) (hs : t.size ≤ 1000000000) :
    Calls Try.prog 79 #[.pointer p] w fun e w' => e = .returned (.string ⟨(enc t).toArray⟩) ∧ Below w.heap.size w w' := by
  obtain ⟨i0, hi, hz0, hz1, hz2⟩ := info_parts Try.info86
  obtain ⟨i1, hj, hy0, hy1, hy2⟩ := info_parts Try.info5
  have hlt : StkAt 171 86 (w.alloc (.cells #[.pointer p] 86)) w.heap.size (some ⟨w.heap.size, 0, none⟩) 1 [t] :=
    ⟨[p], World.ownsRow_lit w _ 1 (Nat.le_refl _) (by unfold maxLen; omega) rfl, p, [], rfl, Tr.keep (KeepTy.alloc _ _ _) _ _ h, rfl⟩
  generalize hE : enc t = E
  have hEl : E.length = t.size := by rw [← hE, enc_len]
  have hpos := t.size_pos
  have hE0 : E = [] ++ encS [t] := by simp [encS, hE]
  have HE0 := Lib.hid hE0
  have HEl := Lib.hid hEl
  clear hE hEl hE0
  go_enter Try.func79, Try.ntmps79
  go_wp2_with fail
  go_loopg [3, 4] (sizes [t]) (fun k o l wr => ∃ (ts : List T) (l1 : List UInt8) (ao1 ao2 : Option Addr) (cap1 cap2 : Nat), k = sizes ts ∧ E = l1 ++ encS ts ∧ o = .slice ao1 l1.length cap1 ∧ BytesAt 5 wr w.heap.size ao1 cap1 l1 ∧
      l = .slice ao2 ts.length cap2 ∧ StkAt 171 86 wr w.heap.size ao2 cap2 ts ∧ Below w.heap.size w wr)
  case atStart => exact ⟨[t], [], _, _, _, _, rfl, HE0.out, rfl, bytesAt_nil _ _ _, rfl, hlt, (Below.refl _ _).alloc (Nat.le_refl _) _⟩
  case round =>
    clear hlt HE0
    obtain ⟨ts, l1, ao1, ao2, cap1, cap2, hk, hEq, rfl, hby, rfl, hst, hbel⟩ := hrel
    have hsz := hbel.size
    have hb1 : l1.length + sizes ts = t.size := by rw [← HEl.out, hEq]; simp [encS_len]
    have hb2 := lt_sizes ts
    have Hb1 := Lib.hid hb1
    replace hb1 := Nat.le_of_eq hb1
    replace hb2 : ts.length ≤ t.size := by omega
    have Hk := Lib.hid hk
    have HEq := Lib.hid hEq
    clear hk hEq
    match ts with
    | [] =>
      have hl1 : l1 ≠ [] := by intro h; have := Hb1.out; subst h; simp [sizes] at this; omega
      have hE1 : E = l1 := by rw [HEq.out]; simp [encS]
      have hconv := run_back hby 112 9 Try.underlying112 Try.underlying5 Try.underlying9 hl1
      have HE1 := Lib.hid hE1
      clear hE1 hl1 hb1 HEl HEq hb2 hst hby
      simp only [List.length_nil]
      go_wp2_with fail
      go_ret
      exact ⟨by rw [HE1.out]; rfl, hbel⟩
    | a :: r =>
      obtain ⟨g, pa, rfl, hB, hg, hca, ha, hst1, hcap⟩ := hst.one
      obtain ⟨ps, hown, htr⟩ := hst1
      simp only [List.length_cons, sizes] at hb1 hb2 ⊢
      generalize hn : r.length = n at *
      have Hn := Lib.hid hn
      clear hn hst
      have e0 : (0 : Int) ≤ (n : Int) := by omega
      have e1 : (n : Int) ≤ (cap2 : Int) := by omega
      cases a with
      | nil =>
        simp only [Tr] at ha
        subst ha
        have hst1 : StkAt 171 86 wr w.heap.size (some ⟨g, 0, none⟩) cap2 r := ⟨ps, by rw [Hn.out]; exact hown, htr⟩
        have HEq2 := Lib.hid (encS_nil_tail HEq.out)
        clear HEq hown htr ps
        generalize hm : l1.length = m at *
        have Hm := Lib.hid hm
        clear hm
        simp only [T.size] at hb1
        have hby2 : wr.ownsRow w.heap.size 5 1 (.slice ao1 m cap1) m (Lib.byteCells l1) := by rw [← Hm.out]; exact hby
        go_wp2_with (at_builtin; go_must (refine wpList_append_lies _ rfl _ _ 112 rfl w.heap.size 5 i1 (.int .u8 0) 1 1 Try.underlying112 hj hy0 hy1 hy2 rfl (by omega) (.slice ao1 m cap1) m (Lib.byteCells l1) rfl (hby2.alloc _) ⟨wr.heap.size, 0, none⟩ 1 1 [.int .u8 48] rfl rfl (cell_one_new _ _ _) (by simp [Value.oneCell']) (by omega) (by unfold maxLen; omega) (by omega) (by simp; omega) (wr.heap.size + 1) (by simp) ?_); intro g2 cap3 w1 hown1 hgrow hat hlt1)
        have R1 := BytesAt.push (c := 48) Hm.out.symm hown1
        have R2 := (hst1.alloc _).grown (hby2.alloc _) (by decide) (by decide) hgrow
        have hb3 : Below w.heap.size w w1 := (hbel.alloc hsz _).grown hgrow (by simp; omega) (fun k hk => (hby2.lt k hk).1)
        clear hown1 hgrow hat hst1 hby
        go_wp2_with fail
        go_roundg (sizes r)
        case measure => rw [Hk.out]; simp [sizes, T.size]
        case rel => exact ⟨r, l1 ++ [48], _, _, _, _, rfl, HEq2.out, by simp [Hm.out], R1, by simp [Hn.out], R2, hb3⟩
      | node a b =>
        obtain ⟨bk, qa, qb, rfl, hb, ha1, ha2⟩ := ha
        have hc0 := cell_of_block hb 0
        have hc1 := cell_of_block hb 1
        simp only [List.getElem?_toArray, List.getElem?_cons_zero, List.getElem?_cons_succ] at hc0 hc1
        have HEq2 := Lib.hid (encS_node_tail HEq.out)
        clear HEq
        generalize hm : l1.length = m at *
        have Hm := Lib.hid hm
        clear hm
        simp only [T.size] at hb1
        have hby2 : wr.ownsRow w.heap.size 5 1 (.slice ao1 m cap1) m (Lib.byteCells l1) := by rw [← Hm.out]; exact hby
        have hst1 : StkAt 171 86 wr w.heap.size (some ⟨g, 0, none⟩) cap2 r := ⟨ps, by rw [Hn.out]; exact hown, htr⟩
        go_wp2_with (at_builtin; go_must (refine wpList_append_lies _ rfl _ _ 112 rfl w.heap.size 5 i1 (.int .u8 0) 1 1 Try.underlying112 hj hy0 hy1 hy2 rfl (by omega) (.slice ao1 m cap1) m (Lib.byteCells l1) rfl (hby2.alloc _) ⟨wr.heap.size, 0, none⟩ 1 1 [.int .u8 49] rfl rfl (cell_one_new _ _ _) (by simp [Value.oneCell']) (by omega) (by unfold maxLen; omega) (by omega) (by simp; omega) (wr.heap.size + 1) (by simp) ?_); intro g2 cap3 w1 hown1 hgrow hat hlt1)
        have R1 := BytesAt.push (c := 49) Hm.out.symm hown1
        have hk1 : KeepTy 171 wr w1 := (KeepTy.alloc _ _ _).trans (KeepTy.grown (by decide) (hby2.alloc _) hgrow)
        have R2 := (hst1.alloc _).grown (hby2.alloc _) (by decide) (by decide) hgrow
        have hb3 : Below w.heap.size w w1 := (hbel.alloc hsz _).grown hgrow (by simp; omega) (fun k hk => (hby2.lt k hk).1)
        have hb' := hk1 _ _ hb
        have ha1' := Tr.keep hk1 _ _ ha1
        have ha2' := Tr.keep hk1 _ _ ha2
        have hc0 := cell_of_block hb' 0
        have hc1 := cell_of_block hb' 1
        simp only [List.getElem?_toArray, List.getElem?_cons_zero, List.getElem?_cons_succ] at hc0 hc1
        have hsz1 := hb3.size
        clear hown1 hgrow hat hst1 hby hown htr hb ha1 ha2 hk1 hby2 hca
        obtain ⟨ps2, hown, htr⟩ := R2
        rw [Hn.out] at hown
        go_wp2_with fail
        go_region_law (first
          | (refine step_append_lies _ (by rfl) _ _ _ (by rfl) w.heap.size 86 i0 (.pointer none) 1 8 Try.underlying167 hi hz0 hz1 hz2 rfl (by omega) (.slice (some ⟨g, 0, none⟩) n cap2) n (ps2.reverse.map Value.pointer) (by rfl) ((hown.alloc _).drew) ⟨w1.heap.size, 0, none⟩ 2 2 [.pointer qb, .pointer qa] (by rfl) (by rfl) (news2 (heap_at w1 _ _ rfl)) (by simp [Value.oneCell']) (by omega) (by unfold maxLen; omega) (by omega) (by simp; omega) (w1.heap.size + 1) (by simp) ?_; intro g3 cap4 w2 hown2 hgrow2 hat2 hlt2))
        all_goals
          have hk2 : KeepTy 171 w1 (w1.alloc (.cells #[.pointer qb, .pointer qa] 86)).drew := (KeepTy.alloc _ _ _).trans (KeepTy.drew _ _)
          have R3 := StkAt.push2 (by decide) ((hown.alloc _).drew) Hn.out.symm (Trs.keep hk2 _ _ htr) (Tr.keep hk2 _ _ ha1') (Tr.keep hk2 _ _ ha2') hown2 hgrow2
          have R4 := (R1.alloc (.cells #[.pointer qb, .pointer qa] 86)).drew.grown ((hown.alloc _).drew) (by decide) hgrow2
          have hb4 : Below w.heap.size w w2 := ((hb3.alloc hsz1 _).drew).grown hgrow2 (by simp; omega) (fun k hk => (hown.lt k hk).1)
          clear hown2 hgrow2 hat2 hown htr R1 hk2
          go_wp2_with fail
          go_roundg (sizes (a :: b :: r))
          case measure => rw [Hk.out]; simp [sizes, T.size]; omega
          case rel => exact ⟨a :: b :: r, l1 ++ [49], _, _, _, _, rfl, HEq2.out, by simp [Hm.out], R4, by simp [Hn.out], R3, hb4⟩

end Go.Proofs.Ythmnbciefpkpmaa
