/- Contracts of the package narcissustop: size, pair, grow. -/
import Derived.Test.YthmnbciefpkpmaaBase
import Derived.Test.YthmnbciefpkpmaaProg
import Derived.Deep.AppendLies
import Derived.Deep.RegionLaw
import Derived.Deep.DrawnRows
namespace Go.Proofs.Ythmnbciefpkpmaa
open Go.RowKit

theorem size_c (p : Option Addr) (t : T) (w : World) (h : Tr 171 w t p) :
    Calls Try.prog 78 #[.pointer p] w fun e w' => e = .returned (.int .i64 t.size) ∧ w = w' := by
  cases t with
  | nil =>
    simp only [Tr] at h
    subst h
    go_enter Try.func78, Try.ntmps78
    go_wp2
    go_ret
    exact ⟨rfl, rfl⟩
  | node h t =>
    obtain ⟨b, vh, vt, rfl, hb, -, -⟩ := h
    have c := cell_of_block hb 2
    clear hb
    simp at c
    go_enter Try.func78, Try.ntmps78
    go_wp2
    go_ret
    exact ⟨rfl, rfl⟩
theorem pair_c (v1 v2 : Option Addr) (t1 t2 : T) (w : World) (h1 : Tr 171 w t1 v1) (h2 : Tr 171 w t2 v2) (hs : t1.size + t2.size < 9223372036854775807) :
    Calls Try.prog 81 #[.pointer v1, .pointer v2] w fun e w' => e = .returned (.pointer (some ⟨w.heap.size, 0, none⟩)) ∧
      w.alloc (.cells #[.pointer v1, .pointer v2, .int .i64 (T.node t1 t2).size] 171) = w' := by
  have hsz : ((T.node t1 t2).size : Int) = 1 + t1.size + t2.size := by simp [T.size]
  rw [hsz]
  clear hsz
  go_enter Try.func81, Try.ntmps81
  go_wp2_with fail
  refine (size_c v1 t1 _ h1).mono ?_
  rintro e w' ⟨rfl, rfl⟩
  go_wp2_with fail
  refine (size_c v2 t2 _ h2).mono ?_
  rintro e w' ⟨rfl, rfl⟩
  go_wp2
  go_ret
  exact ⟨rfl, rfl⟩

theorem Try.info86 : (Try.prog.info? 86).map (fun i => (i.zero, i.size, i.bytes)) = some (some (.pointer none), 1, 8) := by kernel_rfl
attribute [local go_sem ↓] Go.wp_at_zero Go.wp_at_succ
set_option maxRecDepth 100000 in
set_option maxHeartbeats 2000000 in
theorem grow_c (s : ByteArray) (most : Int) (w : World) (hmost : most ≤ 1000000000) :
    Calls Try.prog 68 #[.string s, .int .i64 most] w fun e w' => GrowPost 171 (if (s.size : Int) > most then none else treeOf s.data.toList) e w' ∧ Below w.heap.size w w' := by
  obtain ⟨i0, hi, hz0, hz1, hz2⟩ := info_parts Try.info86
  by_cases hm : (s.size : Int) > most
  · rw [if_pos hm]
    go_enter Try.func68, Try.ntmps68
    go_wp2_with fail
    go_ret2
    exact ⟨rfl, Below.refl _ _⟩
  · rw [if_neg hm]
    generalize hR : GrowPost 171 (treeOf s.data.toList) = R
    have HR := Lib.hid hR
    clear hR
    go_enter Try.func68, Try.ntmps68
    go_wp2_with fail
    go_loopw [6, 7] (fun l i wr => ∃ (k : Nat) (x : Int) (ts : List T) (ao : Option Addr) (cap : Nat), i = .int .i64 x ∧ x = k - 1 ∧ k ≤ s.size ∧ stk (s.data.toList.drop k) = some ts ∧ l = .slice ao ts.length cap ∧ StkAt 171 86 wr w.heap.size ao cap ts ∧ Below w.heap.size w wr)
       (fun _ i _ => (intOf i + 1).toNat)
    case atStart => exact ⟨s.size, _, [], none, 0, rfl, rfl, Nat.le_refl _, by rw [List.drop_of_length_le (by simp)]; rfl, rfl, stkAt_nil _ _ _ _, Below.refl _ _⟩
    case round =>
      obtain ⟨k, x, ts, ao, cap, rfl, hx, hk, hst, rfl, hrow, hbel⟩ := hrel
      have hnb : ts.length ≤ s.size := by
        have := stk_len _ _ hst
        simp at this
        omega
      have Hst := Lib.hid hst
      clear hst
      have hsz := hbel.size
      cases k with
      | zero =>
        obtain rfl : x = -1 := by omega
        clear hx hk
        by_cases hn : ts.length = 1
        · match ts, hn with
          | [t], _ =>
          obtain ⟨ps, hown, p, r, rfl, ht, hr⟩ := hrow
          simp only [Trs] at hr
          subst hr
          rcases hown.2 with ⟨_, h0⟩ | ⟨g, cap', cur, hv, _, _, _⟩
          · simp at h0
          · simp only [Value.slice.injEq] at hv
            obtain ⟨rfl, _, rfl⟩ := hv
            have hc := hown.cellAt 0 (by simp)
            simp only [List.reverse_cons, List.reverse_nil, List.nil_append, List.map_cons, List.map_nil, List.getElem?_cons_zero] at hc
            have hfin : R = GrowPost 171 (some t) := by rw [← HR.out, treeOf_stk Hst.out]
            have Hfin := Lib.hid hfin
            clear hfin HR Hst hown
            go_wp2_with fail
            go_ret2
            exact ⟨by rw [Hfin.out]; exact ⟨_, rfl, ht⟩, hbel⟩
        · have hfin : R = GrowPost 171 none := by
            rw [← HR.out, treeOf_stk Hst.out]
            match ts, hn with
            | [], _ => rfl
            | _ :: _ :: _, _ => rfl
          have Hfin := Lib.hid hfin
          clear hfin HR Hst hrow
          generalize ts.length = n at *
          have hne : ((n : Int) != 1) = true := by rw [bne_iff_ne]; omega
          go_wp2_with fail
          go_ret2
          exact ⟨by rw [Hfin.out]; rfl, hbel⟩
      | succ j =>
        obtain rfl : x = (j : Int) := by omega
        have hj : j < s.size := by omega
        clear hx hk
        by_cases h48 : ((s[j]'hj).toNat : Int) = 48
        · obtain ⟨ps, hown, hts⟩ := hrow
          generalize hn : ts.length = n at *
          have Hn := Lib.hid hn
          clear hn
          go_wp2_with (at_builtin; refine wpList_append_lies _ rfl _ _ 167 rfl w.heap.size 86 i0 (.pointer none) 1 8 Try.underlying167 hi hz0 hz1 hz2 rfl (by omega) _ n _ rfl (hown.alloc _) ⟨wr.heap.size, 0, none⟩ 1 1 [.pointer none] rfl rfl (cell_one_new _ _ _) (by simp [Value.oneCell']) (by omega) (by unfold maxLen; omega) (by omega) (by simp; omega) (wr.heap.size + 1) (by simp) ?_; intro g cap' w1 hown1 hgrow hat hlt)
          have R2 := StkAt.push (t := .nil) (p := none) (by decide) (hown.alloc _) Hn.out.symm (Trs.keep (KeepTy.alloc _ _ _) _ _ hts) rfl hown1 hgrow
          have hb2 : Below w.heap.size w w1 := ((hbel.alloc hsz _).grown hgrow (by simp; omega) (fun k hk => (hown.lt k hk).1))
          clear hown1 hgrow hat hown hts
          go_wp2_with fail
          go_roundw
          case rel => exact ⟨j, _, .nil :: ts, _, _, rfl, rfl, by omega, stk_zero hj Hst.out h48, by simp [← Hn.out], R2, hb2⟩
          case measure => simp [intOf]
        · have h48b : (((s[j]'hj).toNat : Int) == 48) = false := by simpa using h48
          by_cases h49 : ((s[j]'hj).toNat : Int) = 49 ∧ 2 ≤ ts.length
          · obtain ⟨h49, h2⟩ := h49
            obtain ⟨m, hn⟩ : ∃ m, ts.length = m + 2 := ⟨ts.length - 2, by omega⟩
            obtain ⟨a, b, r, hts, hr⟩ := two_of_len hn
            rw [hn] at hnb ⊢
            obtain ⟨g, pa, pb, rfl, hB, hg, hca, hcb, ha, hb, hrow, hcap⟩ := (hts ▸ hrow).two
            obtain ⟨hps, hown, htr⟩ := hrow
            rw [hr] at hca hcb hcap hown
            have hss : a.size + b.size ≤ s.size := by
              have := stk_sizes _ _ Hst.out
              rw [hts] at this
              simp [sizes] at this
              omega
            have Hts := Lib.hid (And.intro hts hr)
            clear hts hr hn h2
            have e0 : (0 : Int) ≤ (m : Int) := by omega
            have e1 : (m : Int) ≤ (cap : Int) := by omega
            have e2 : (m : Int) + 1 < (m : Int) + 2 := by omega
            have e3 : (m : Int) < (m : Int) + 2 := by omega
            have h49c : (((s[j]'hj).toNat : Int) == 49) = true := by simpa using h49
            go_wp2_with fail
            have f1 : IntKind.i64.wrap ((m : Int)) = m := IntWalk.i64_in _ (by omega)
            have f2 : IntKind.i64.wrap ((m : Int) + 2 - 1) = (m : Int) + 1 := by rw [show (m : Int) + 2 - 1 = (m : Int) + 1 by omega]; exact IntWalk.i64_in _ (by omega)
            have f3 : ((m : Int) + 1).toNat = m + 1 := by omega
            have f4 : (0 : Int) ≤ (m : Int) + 1 := by omega
            go_region_law (first
                | (go_simp; go_at_call 81; refine (pair_c pa pb a b _ (Tr.keep (KeepTy.drew _ _) _ _ ha) (Tr.keep (KeepTy.drew _ _) _ _ hb) (by omega)).mono ?_; rintro e w' ⟨rfl, rfl⟩)
                | (refine step_append_lies _ (by rfl) _ _ _ (by rfl) w.heap.size 86 i0 (.pointer none) 1 8 Try.underlying167 hi hz0 hz1 hz2 rfl (by omega) (.slice (some ⟨g, 0, none⟩) m cap) m (hps.reverse.map Value.pointer) (by rfl) (((hown.alloc _).alloc _).drew) ⟨wr.heap.size + 1, 0, none⟩ 1 1 [.pointer (some ⟨wr.heap.size, 0, none⟩)] (by rfl) (by rfl) (news1 (heap_at (wr.alloc _) _ _ (by simp))) (by simp [Value.oneCell']) (by omega) (by unfold maxLen; omega) (by omega) (by simp; omega) (wr.heap.size + 2) (by simp) ?_; intro g2 cap2 w1 hown1 hgrow hat hlt))
            all_goals
              clear f1 f2 f3 f4
              have hk1 : KeepTy 171 wr ((wr.alloc (.cells #[.pointer pa, .pointer pb, .int .i64 (T.node a b).size] 171)).alloc (.cells #[.pointer (some ⟨wr.heap.size, 0, none⟩)] 86)).drew :=
                ((KeepTy.alloc _ _ _).trans (KeepTy.alloc _ _ _)).trans (KeepTy.drew _ _)
              have hnew : Tr 171 ((wr.alloc (.cells #[.pointer pa, .pointer pb, .int .i64 (T.node a b).size] 171)).alloc (.cells #[.pointer (some ⟨wr.heap.size, 0, none⟩)] 86)).drew (.node a b) (some ⟨wr.heap.size, 0, none⟩) :=
                ⟨_, pa, pb, rfl, KeepTy.alloc _ _ _ _ _ (heap_at _ _ _ rfl), Tr.keep hk1 _ _ ha, Tr.keep hk1 _ _ hb⟩
              have R2 := StkAt.push (by decide) (((hown.alloc _).alloc _).drew) Hts.out.2.symm (Trs.keep hk1 _ _ htr) hnew hown1 hgrow
              have hb2 : Below w.heap.size w w1 := ((((hbel.alloc hsz _).alloc (by simp; omega) _).drew).grown hgrow (by simp; omega) (fun k hk => (hown.lt k hk).1))
              clear hown1 hgrow hat hown htr
              go_wp2_with fail
              go_roundw
              case rel => exact ⟨j, _, .node a b :: r, _, _, rfl, rfl, by omega, stk_one hj (Hts.out.1 ▸ Hst.out) h49, by simp [Hts.out.2], R2, hb2⟩
              case measure => simp [intOf]
          · have hbad := stk_bad hj Hst.out h48 (fun h => by omega)
            have hfin : R = GrowPost 171 none := by rw [← HR.out, treeOf_none hbad]
            have Hfin := Lib.hid hfin
            clear hfin HR Hst hrow hbad
            generalize ts.length = n at *
            by_cases h49b : ((s[j]'hj).toNat : Int) = 49
            · have h49c : (((s[j]'hj).toNat : Int) == 49) = true := by simpa using h49b
              have hn2 : n ≤ 1 := by omega
              clear h49
              go_wp2_with fail
              go_ret2
              exact ⟨by rw [Hfin.out]; rfl, hbel⟩
            · have h49c : (((s[j]'hj).toNat : Int) == 49) = false := by simpa using h49b
              clear h49
              go_wp2_with fail
              go_ret2
              exact ⟨by rw [Hfin.out]; rfl, hbel⟩

theorem grow_no (s : ByteArray) (most : Int) (w : World) (hmost : most ≤ 1000000000) (h : (if (s.size : Int) > most then none else treeOf s.data.toList) = none) :
    Calls Try.prog 68 #[.string s, .int .i64 most] w fun e w' => e = .returned (.tuple #[.pointer none, .bool false]) ∧ Below w.heap.size w w' :=
  (grow_c s most w hmost).mono fun e w' ⟨h1, h2⟩ => by rw [h] at h1; exact ⟨h1, h2⟩

theorem grow_yes (s : ByteArray) (most : Int) (t : T) (w : World) (hmost : most ≤ 1000000000) (h : (if (s.size : Int) > most then none else treeOf s.data.toList) = some t) :
    Calls Try.prog 68 #[.string s, .int .i64 most] w fun e w' => ∃ p, e = .returned (.tuple #[.pointer p, .bool true]) ∧ Tr 171 w' t p ∧ Below w.heap.size w w' :=
  (grow_c s most w hmost).mono fun e w' ⟨h1, h2⟩ => by rw [h] at h1; obtain ⟨p, he, ht⟩ := h1; exact ⟨p, he, ht, h2⟩

end Go.Proofs.Ythmnbciefpkpmaa
