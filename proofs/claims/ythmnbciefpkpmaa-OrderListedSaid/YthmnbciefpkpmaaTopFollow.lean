/- The contract of narcissustop.follow: a run of a valid program. -/
import Derived.Test.YthmnbciefpkpmaaRegs
import Derived.Test.YthmnbciefpkpmaaTopGood
import Derived.Test.YthmnbciefpkpmaaMach2
import Derived.Deep.CutBlock
import Derived.Deep.DeepCutAuto
namespace Go.Proofs.Ythmnbciefpkpmaa
open Go.RowKit

/-- the trees of the instructions that set, up to a place -/
def setsTo (l : List Ins) (k : Nat) : List T := (List.range l.length).map fun i => if i < k then setT (l.getD i default) else .nil

theorem setsTo_len (l : List Ins) (k : Nat) : (setsTo l k).length = l.length := by simp [setsTo]

theorem setsTo_zero (l : List Ins) : setsTo l 0 = List.replicate l.length .nil := by
  apply List.ext_getElem
  · simp [setsTo]
  · intro i h1 h2; simp [setsTo]

theorem setsTo_succ (l : List Ins) (k : Nat) : setsTo l (k + 1) = (setsTo l k).set k (setT (l.getD k default)) := by
  apply List.ext_getElem
  · simp [setsTo]
  · intro i h1 h2
    simp only [setsTo, List.length_map, List.length_range] at h1
    rw [List.getElem_set]
    simp only [setsTo, List.getElem_map, List.getElem_range]
    split
    · rename_i h
      split
      · subst_vars; rfl
      · rw [if_pos (by omega)]
    · rename_i h
      rw [if_neg (by omega), if_neg (by omega)]

theorem setsTo_skip (l : List Ins) (k : Nat) (h0 : setT (l.getD k default) = .nil) : setsTo l (k + 1) = setsTo l k := by
  apply List.ext_getElem
  · simp [setsTo]
  · intro i h1 h2
    simp only [setsTo, List.getElem_map, List.getElem_range]
    by_cases h : i < k
    · rw [if_pos h, if_pos (by omega)]
    · rw [if_neg h]
      split
      · obtain rfl : i = k := by omega
        exact h0
      · rfl

theorem setsTo_all (l : List Ins) (i : Nat) (h : i < l.length) : (setsTo l l.length).getD i .nil = setT (l.getD i default) := by simp [setsTo, h]

theorem trs_nils (ty : TypeId) (w : World) : ∀ n, Trs ty w (List.replicate n .nil) (List.replicate n none)
  | 0 => rfl
  | n + 1 => ⟨none, _, rfl, rfl, trs_nils ty w n⟩

theorem size_q (p : Option Addr) (t : T) (w : World) (n : Nat) (h : Tr 171 w t p) :
    Calls Try.prog 78 #[.pointer p] (w.drewN n) fun e w' => e = .returned (.int .i64 t.size) ∧ w' = w.drewN n :=
  (size_c p t (w.drewN n) (Tr.keep (w := w) (w' := w.drewN n) (fun _ _ h => h) _ _ h)).mono fun _ _ ⟨h1, h2⟩ => ⟨h1, h2.symm⟩

set_option maxRecDepth 100000 in
set_option maxHeartbeats 4000000 in
theorem follow_c (ao : Option Addr) (b o cap : Nat) (l : List Ins) (most : Int) (px : Option Addr) (x : T) (fuel : Nat) (w : World) (hp : ProgIn w ao b o l) (hg : goodP most 2000000 l = true) (hmost : most ≤ 4000)
    (hx : Tr 171 w x px) (hxs : x.size ≤ 100000000) (hf : fuel ≤ 1000000000) :
    Calls Try.prog 129 #[.slice ao l.length cap, .pointer px, .int .i64 fuel] w fun e w' =>
      (∃ p, e = .returned (.tuple #[.pointer p, .int .i64 (followP l x fuel).2.1, .int .i64 (followP l x fuel).2.2.1, .int .i64 (followP l x fuel).2.2.2]) ∧ Tr 171 w' (followP l x fuel).1 p) ∧ Below w.heap.size w w' := by
  obtain ⟨i0, hi, hz0, hz1, hz2⟩ := info_parts Try.info86
  have hlen := goodP_len hg
  generalize hR : followP l x fuel = R
  obtain ⟨y, k0, how, mst⟩ := R
  have HR := Lib.hid hR
  clear hR
  go_enter Try.func129, Try.ntmps129
  go_wp2_with (at_make; refine wpList_make_full _ rfl _ _ 167 rfl w.heap.size 86 i0 (.pointer none) 1 Try.underlying167 hi hz0 hz1 .i64 .i64 _ _ l.length rfl rfl rfl rfl (by rw [hz2]; omega) (by unfold maxLen; omega) (by simp) ?_; intro w1 hown hgrow)
  have hsz := hgrow.size
  simp only [World.size_alloc] at hsz
  have hbel1 : Below w.heap.size w w1 := ((Below.refl _ _).alloc (Nat.le_refl _) _).grown hgrow (by simp) (fun k hk => by simp at hk)
  have hk1 := hgrow.block w.heap.size (by simp) (by simp)
  rw [heap_at w _ _ rfl] at hk1
  have harr : ArrAt 171 201 w1 w.heap.size (List.replicate 32 .nil) := ⟨List.replicate 32 none, by rw [hk1]; rfl, trs_nils _ _ _⟩
  have hrow : RowAt 171 86 w1 w.heap.size (w.heap.size + 1) l.length l.length (setsTo l 0) := ⟨List.replicate l.length none, by simpa [toList_madeCells_one, Value.cells] using hown, by rw [setsTo_zero]; exact trs_nils _ _ _, setsTo_len _ _⟩
  clear hown hgrow hk1
  go_loopw [12] (fun i wr => ∃ (k : Nat), k ≤ l.length ∧ i = .int .i64 k ∧ RowAt 171 86 wr w.heap.size (w.heap.size + 1) l.length l.length (setsTo l k) ∧ ArrAt 171 201 wr w.heap.size (List.replicate 32 .nil) ∧ Below w.heap.size w wr) (fun i _ => l.length - (intOf i).toNat)
  case atStart => exact ⟨0, by omega, rfl, hrow, harr, hbel1⟩
  case round =>
    clear harr hrow hbel1 hsz
    obtain ⟨k, hk, rfl, hrow, harr, hbel⟩ := hrel
    by_cases hlt : k < l.length
    · have hins := (hp.ins k hlt).below hbel (hp.lt (by intro e; subst e; simp at hlt))
      obtain ⟨hok, htz⟩ := goodP_ins hg k hlt
      obtain rfl := hp.at_ (by intro e; subst e; simp at hlt)
      have hsucc := setsTo_succ l k
      have hskip := setsTo_skip l k
      generalize l.getD k default = z at *
      obtain ⟨c0, c1, c2, c3, c4⟩ := hins
      have hsize := hbel.size
      by_cases h0 : z.op = 0
      · have ht : (if (z.tree.size : Int) > 2000000 then none else treeOf z.tree.data.toList) = some (setT z) := by
          rcases (insOk_cases hok).2 with ⟨_, h⟩ | ⟨h, _⟩ | ⟨h, _⟩ | ⟨h, _⟩
          · exact h
          · omega
          · omega
          · omega
        replace c0 : wr.cell? ⟨b, o + k * 5, none⟩ = some (.int .i64 0) := by rw [← h0]; exact c0
        have Ht := Lib.hid ht
        have Hs := Lib.hid hsucc
        clear hsucc hskip h0 ht hok c1 c2 c3
        obtain ⟨p0, hcell, _⟩ := hrow.cell k hlt
        have hfr := hrow.frozen k
        have hlt2 : w.heap.size + 1 < wr.heap.size := by obtain ⟨cur, hb, _⟩ := hrow.block; exact lt_of_block hb
        go_wp2_with (go_at_call 68; refine (grow_yes _ _ (setT z) _ (by omega) Ht.out).mono ?_; rintro e w2 ⟨p, rfl, htr, hb2⟩; have d1 := (hb2.cell (p := ⟨w.heap.size + 1, k, none⟩) hlt2).trans hcell; have d2 := (hb2.frozen (p := ⟨w.heap.size + 1, k, none⟩) hlt2).trans hfr)
        have hrow2 := (hrow.keep (keepB hb2 _ (Nat.le_refl _)) (keepB hb2 _ (Nat.le_refl _))).store (by decide) k (setT z) p htr
        have hrow3 : (∀ t2, t2 ≠ 86 → KeepTy t2 w2 (w2.setCell ⟨w.heap.size + 1, k, none⟩ (.pointer p))) ∧ True := by
          obtain ⟨cur, hb, _⟩ := (hrow.keep (keepB hb2 _ (Nat.le_refl _)) (keepB hb2 _ (Nat.le_refl _))).block
          exact ⟨fun t2 ht2 => KeepTy.setCell (a := ⟨w.heap.size + 1, k, none⟩) ht2 hb, trivial⟩
        have harr2 := (harr.keep (keepB hb2 _ (Nat.le_refl _)) (keepB hb2 _ (Nat.le_refl _)))
        go_roundw
        case rel => 
          refine ⟨k + 1, by omega, by go_num, by rw [Hs.out]; exact hrow2, ?_, ?_⟩
          · exact harr2.keep (hrow3.1 _ (by decide)) (hrow3.1 _ (by decide))
          · exact (hbel.trans (hb2.mono hsize)).setCell (by simp) _
        case measure => simp [intOf]; omega
      · have h0b : (z.op == 0) = false := by simp [h0]
        have Hs := Lib.hid (hskip (by simp [setT, h0]))
        clear hsucc hskip h0 hok c1 c2 c3 c4
        go_wp2_with fail
        go_roundw
        case rel => exact ⟨k + 1, by omega, by go_num, by rw [Hs.out]; exact hrow, harr, hbel⟩
        case measure => simp [intOf]; omega
    · obtain rfl : k = l.length := by omega
      clear hlt hk
      obtain ⟨q0, hq0, _⟩ := harr.cell 0 (by simp)
      have hfr := harr.frozen 0
      have hx2 : Tr 171 (wr.setCell ⟨w.heap.size, 0, none⟩ (.pointer px)) x px := Tr.keep ((keepB hbel _ (Nat.le_refl _)).trans (harr.keepTy (by decide) 0 _)) _ _ hx
      have harr2 : ArrAt 171 201 (wr.setCell ⟨w.heap.size, 0, none⟩ (.pointer px)) w.heap.size (first x) := harr.store (by decide) 0 x px (Tr.keep (keepB hbel _ (Nat.le_refl _)) _ _ hx)
      have hrow2 : RowAt 171 86 (wr.setCell ⟨w.heap.size, 0, none⟩ (.pointer px)) w.heap.size (w.heap.size + 1) l.length l.length (setsTo l l.length) := hrow.keep (harr.keepTy (by decide) 0 _) (harr.keepTy (by decide) 0 _)
      have hbel2 : Below w.heap.size w (wr.setCell ⟨w.heap.size, 0, none⟩ (.pointer px)) := hbel.setCell (Nat.le_refl _) _
      have hsf := sizes_first x
      go_wp2_with (go_at_call 78; refine (size_c px x _ hx2).mono ?_; rintro e w' ⟨rfl, rfl⟩)
      clear hq0 hfr harr hrow hbel hx2
      go_loopw [13, 14, 15, 16] (fun sat sall smost sk wr => ∃ (at_ : Nat) (r : List T) (ms kk f : Nat), at_ ≤ l.length ∧ r.length = 32 ∧ (∀ i, i < r.length → (r.getD i .nil).size ≤ 100000000) ∧
          sat = .int .i64 at_ ∧ sall = .int .i64 (sizes r) ∧ smost = .int .i64 ms ∧ sk = .int .i64 kk ∧ kk + f = fuel ∧ runP l f at_ r ms kk = (y, k0, how, mst) ∧
          ArrAt 171 201 wr w.heap.size r ∧ RowAt 171 86 wr w.heap.size (w.heap.size + 1) l.length l.length (setsTo l l.length) ∧ Below w.heap.size w wr)
        (fun _ _ _ i _ => fuel - (intOf i).toNat)
      case atStart =>
        refine ⟨0, first x, x.size + 31, 0, fuel, by omega, rfl, ?_, rfl, ?_, ?_, rfl, by omega, HR.out, harr2, hrow2, hbel2⟩
        · exact first_bound hxs (by omega)
        · rw [hsf]; congr 1; omega
        · congr 1; omega
      case round =>
        clear harr2 hrow2 hbel2 hsf
        obtain ⟨at_, r, ms, kk, f, hat, hrl, hsz, rfl, rfl, rfl, rfl, hkf, hrun, harr, hrow, hbel⟩ := hrel
        have hsb := sizes_le 100000000 r hsz
        rw [hrl] at hsb
        have Hrl := Lib.hid hrl
        have Hsz := Lib.hid hsz
        have Hrun := Lib.hid hrun
        have Hkf := Lib.hid hkf
        have hkf2 : kk ≤ fuel := by omega
        clear hrl hsz hrun hkf
        have hsize := hbel.size
        have hlt1 := harr.lt
        have hlt3 : w.heap.size + 1 < wr.heap.size := by obtain ⟨cur, hb, _⟩ := hrow.block; exact lt_of_block hb
        by_cases hend : at_ = l.length
        · obtain ⟨p0, hc0, ht0⟩ := harr.cell 0 (by rw [Hrl.out]; omega)
          have hrr : (r.getD 0 .nil, kk, 0, ms) = (y, k0, how, mst) := by
            have := Hrun.out
            unfold runP at this
            cases f <;> simpa [hend] using this
          have hendb : ((at_ : Int) == (l.length : Int)) = true := by simp [hend]
          simp only [Prod.mk.injEq] at hrr
          obtain ⟨rfl, rfl, rfl, rfl⟩ := hrr
          clear hend hat Hkf Hrun
          go_wp2_with fail
          refine bodyPost_ret (v := .tuple #[.pointer p0, .int .i64 kk, .int .i64 0, .int .i64 ms]) (by simp [results, Try.results129, go_sem]) rfl ⟨⟨p0, rfl, ht0⟩, hbel⟩
        · have hendb : ((at_ : Int) == (l.length : Int)) = false := by simp; omega
          have hlt : at_ < l.length := by omega
          clear hend
          cases f with
          | zero =>
            have hkb : ((kk : Int) == (fuel : Int)) = true := by have := Hkf.out; simp; omega
            have hrr : (T.nil, kk, 1, ms) = (y, k0, how, mst) := by
              have := Hrun.out
              unfold runP at this
              rw [if_neg (by omega)] at this
              exact this
            simp only [Prod.mk.injEq] at hrr
            obtain ⟨rfl, rfl, rfl, rfl⟩ := hrr
            clear Hkf Hrun
            go_wp2_with fail
            refine bodyPost_ret (v := .tuple #[.pointer none, .int .i64 kk, .int .i64 1, .int .i64 ms]) (by simp [results, Try.results129, go_sem]) rfl ⟨⟨none, rfl, rfl⟩, hbel⟩
          | succ f =>
            have hkb : ((kk : Int) == (fuel : Int)) = false := by have := Hkf.out; simp; omega
            have hkf3 : kk < fuel := by have := Hkf.out; omega
            have hins := (hp.ins at_ hlt).below hbel (hp.lt (by intro e; subst e; simp at hlt))
            obtain ⟨hok, htz⟩ := goodP_ins hg at_ hlt
            obtain rfl := hp.at_ (by intro e; subst e; simp at hlt)
            have hset := setsTo_all l at_ hlt
            have hstep := runP_step l f at_ r ms kk (by omega)
            rw [Hrun.out] at hstep
            generalize l.getD at_ default = z at *
            have Hstep := Lib.hid hstep
            have Hset := Lib.hid hset
            clear hstep hset Hrun
            obtain ⟨c0, c1, c2, c3, c4⟩ := hins
            obtain ⟨⟨na, hna, hna2⟩, hcases⟩ := insOk_cases hok
            have hcases2 : ¬ z.op = 5 ∨ -(at_ : Int) ≤ z.b ∧ z.b ≤ (l.length : Int) - at_ := by
              rcases hcases with ⟨h, _⟩ | ⟨h, _⟩ | ⟨h, _⟩ | ⟨_, h⟩
              · exact .inl (by omega)
              · exact .inl (by omega)
              · exact .inl (by omega)
              · exact .inr h
            rw [hna] at c1
            have Hna := Lib.hid hna
            clear hna hok
            have harr1 := harr.keep (KeepTy.alloc _ _ (.cells #[.int .i64 z.op, .int .i64 na, .int .i64 z.b, .int .i64 z.c, .string z.tree] 57)) (KeepTy.alloc _ _ _)
            have hrow1 := hrow.keep (KeepTy.alloc _ _ (.cells #[.int .i64 z.op, .int .i64 na, .int .i64 z.b, .int .i64 z.c, .string z.tree] 57)) (KeepTy.alloc _ _ _)
            go_upto_block 4 with fail
            go_cut [13, 18] (fun sat sy wc => ∃ (y1 : T) (p1 : Option Addr), stepV z r = some y1 ∧ sat = .int .i64 (stepA z at_ y1) ∧ sy = .pointer p1 ∧ Tr 171 wc y1 p1 ∧
              ArrAt 171 201 wc w.heap.size r ∧ RowAt 171 86 wc w.heap.size (w.heap.size + 1) l.length l.length (setsTo l l.length) ∧
              Below (wr.heap.size + 1) (wr.alloc (.cells #[.int .i64 z.op, .int .i64 na, .int .i64 z.b, .int .i64 z.c, .string z.tree] 57)) wc)
            case first =>
              clear harr1 hrow1
              rcases hcases with ⟨h0, ht⟩ | ⟨h134, hb⟩ | ⟨h2, hb, hc⟩ | ⟨h5, hb1, hb2⟩
              · obtain ⟨p1, hc1, ht1⟩ := hrow.cell at_ hlt
                rw [Hset.out] at ht1
                have o0 : (z.op == 0) = true := by simp [h0]
                have sA : stepA z at_ (setT z) = at_ + 1 := by simp [stepA, h0]
                have sV : stepV z r = some (setT z) := by simp [stepV, h0]
                have S1 := Lib.hid sA
                have S2 := Lib.hid sV
                clear h0 ht sA sV
                go_wp2_with fail
                go_meet
                exact ⟨setT z, p1, S2.out, by rw [S1.out]; rfl, rfl, Tr.keep (KeepTy.alloc _ _ _) _ _ ht1, harr.keep (KeepTy.alloc _ _ _) (KeepTy.alloc _ _ _), hrow.keep (KeepTy.alloc _ _ _) (KeepTy.alloc _ _ _), Below.refl _ _⟩
              · obtain ⟨nb, hnb, hnb2⟩ := hb
                obtain ⟨pb, hcb, htb⟩ := harr.cell z.b.toNat (by rw [Hrl.out]; omega)
                have b0 : 0 ≤ z.b := by omega
                have b1 : z.b < 32 := by omega
                have o0 : (z.op == 0) = false := by rcases h134 with h | h | h <;> simp [h]
                have o2 : (z.op == 2) = false := by rcases h134 with h | h | h <;> simp [h]
                have sA : ∀ y1, stepA z at_ y1 = at_ + 1 := by intro y1; rcases h134 with h | h | h <;> simp [stepA, h]
                have S1 := Lib.hid sA
                clear hnb hnb2 sA
                rcases h134 with h | h | h
                · have o1 : (z.op == 1) = true := by simp [h]
                  have S2 := Lib.hid (show stepV z r = some (r.getD z.b.toNat .nil) by simp [stepV, h])
                  clear h
                  go_wp2_with fail
                  go_meet
                  exact ⟨_, pb, S2.out, by rw [S1.out]; rfl, rfl, Tr.keep (KeepTy.alloc _ _ _) _ _ htb, harr.keep (KeepTy.alloc _ _ _) (KeepTy.alloc _ _ _), hrow.keep (KeepTy.alloc _ _ _) (KeepTy.alloc _ _ _), Below.refl _ _⟩
                · have o1 : (z.op == 1) = false := by simp [h]
                  have o3 : (z.op == 3) = true := by simp [h]
                  have S2 := Lib.hid (show stepV z r = some (r.getD z.b.toNat .nil).hd by simp [stepV, h])
                  clear h
                  generalize r.getD z.b.toNat .nil = tb at *
                  cases tb with
                  | nil =>
                    simp only [Tr] at htb
                    subst htb
                    go_wp2_with fail
                    go_meet
                    exact ⟨_, none, S2.out, by rw [S1.out]; rfl, rfl, rfl, harr.keep (KeepTy.alloc _ _ _) (KeepTy.alloc _ _ _), hrow.keep (KeepTy.alloc _ _ _) (KeepTy.alloc _ _ _), Below.refl _ _⟩
                  | node t1 t2 =>
                    obtain ⟨bk, qa, qb, rfl, hbk, h1, h2⟩ := htb
                    have hk0 := cell_of_block hbk 0
                    have hk1 := lt_of_block hbk
                    simp only [List.getElem?_toArray, List.getElem?_cons_zero] at hk0
                    clear hbk
                    go_wp2_with fail
                    go_meet
                    exact ⟨_, qa, S2.out, by rw [S1.out]; rfl, rfl, Tr.keep (KeepTy.alloc _ _ _) _ _ h1, harr.keep (KeepTy.alloc _ _ _) (KeepTy.alloc _ _ _), hrow.keep (KeepTy.alloc _ _ _) (KeepTy.alloc _ _ _), Below.refl _ _⟩
                · have o1 : (z.op == 1) = false := by simp [h]
                  have o3 : (z.op == 3) = false := by simp [h]
                  have o4 : (z.op == 4) = true := by simp [h]
                  have S2 := Lib.hid (show stepV z r = some (r.getD z.b.toNat .nil).tl by simp [stepV, h])
                  clear h
                  generalize r.getD z.b.toNat .nil = tb at *
                  cases tb with
                  | nil =>
                    simp only [Tr] at htb
                    subst htb
                    go_wp2_with fail
                    go_meet
                    exact ⟨_, none, S2.out, by rw [S1.out]; rfl, rfl, rfl, harr.keep (KeepTy.alloc _ _ _) (KeepTy.alloc _ _ _), hrow.keep (KeepTy.alloc _ _ _) (KeepTy.alloc _ _ _), Below.refl _ _⟩
                  | node t1 t2 =>
                    obtain ⟨bk, qa, qb, rfl, hbk, h1, h2⟩ := htb
                    have hk0 := cell_of_block hbk 1
                    have hk1 := lt_of_block hbk
                    simp only [List.getElem?_toArray, List.getElem?_cons_zero, List.getElem?_cons_succ] at hk0
                    clear hbk
                    go_wp2_with fail
                    go_meet
                    exact ⟨_, qb, S2.out, by rw [S1.out]; rfl, rfl, Tr.keep (KeepTy.alloc _ _ _) _ _ h2, harr.keep (KeepTy.alloc _ _ _) (KeepTy.alloc _ _ _), hrow.keep (KeepTy.alloc _ _ _) (KeepTy.alloc _ _ _), Below.refl _ _⟩
              · obtain ⟨nb, hnb, hnb2⟩ := hb
                obtain ⟨nc, hnc, hnc2⟩ := hc
                obtain ⟨pb, hcb, htb⟩ := harr.cell z.b.toNat (by rw [Hrl.out]; omega)
                obtain ⟨pc, hcc, htc⟩ := harr.cell z.c.toNat (by rw [Hrl.out]; omega)
                have b0 : 0 ≤ z.b := by omega
                have b1 : z.b < 32 := by omega
                have d0 : 0 ≤ z.c := by omega
                have d1 : z.c < 32 := by omega
                have o0 : (z.op == 0) = false := by simp [h2]
                have o1 : (z.op == 1) = false := by simp [h2]
                have o2 : (z.op == 2) = true := by simp [h2]
                have S1 := Lib.hid (show ∀ y1, stepA z at_ y1 = at_ + 1 by intro y1; simp [stepA, h2])
                have zb := getD_size Hsz.out (by omega) z.b.toNat
                have zc := getD_size Hsz.out (by omega) z.c.toNat
                have hbig : stepV z r = if (r.getD z.b.toNat .nil).size + (r.getD z.c.toNat .nil).size ≥ 2000000 then none else some (.node (r.getD z.b.toNat .nil) (r.getD z.c.toNat .nil)) := by simp [stepV, h2]
                clear h2 hnb hnb2 hnc hnc2
                generalize r.getD z.b.toNat .nil = tb at *
                generalize r.getD z.c.toNat .nil = tc at *
                have Hbig := Lib.hid hbig
                clear hbig
                have f1 : IntKind.i64.wrap ((tb.size : Int) + (tc.size : Int)) = (tb.size : Int) + (tc.size : Int) := IntWalk.i64_in _ (by omega)
                by_cases hlg : (2000000 : Int) ≤ (tb.size : Int) + (tc.size : Int)
                · have hrr : (T.nil, kk, 2, 2000000) = (y, k0, how, mst) := by
                    have := Hstep.out
                    unfold runNext at this
                    rw [Hbig.out, if_pos (by omega)] at this
                    exact this.symm
                  simp only [Prod.mk.injEq] at hrr
                  obtain ⟨rfl, rfl, rfl, rfl⟩ := hrr
                  clear Hstep HR
                  go_wp2_with fail
                  go_quiet (first
                    | (go_at_call_of 78 (Value.pointer pb); exact Calls.quiet_of_same (size_q _ tb _ _ (Tr.keep (KeepTy.alloc _ _ _) _ _ htb)))
                    | (go_at_call_of 78 (Value.pointer pc); exact Calls.quiet_of_same (size_q _ tc _ _ (Tr.keep (KeepTy.alloc _ _ _) _ _ htc))))
                  go_wp2_with fail
                  refine bodyPost_ret (v := .tuple #[.pointer none, .int .i64 kk, .int .i64 2, .int .i64 2000000]) (by simp [results, Try.results129, go_sem]) rfl ⟨⟨none, rfl, rfl⟩, below_drewN (hbel.alloc hsize _) _⟩
                · have S2 := Lib.hid (show stepV z r = some (.node tb tc) by rw [Hbig.out, if_neg (by omega)])
                  have hlg2 : (tb.size : Int) + (tc.size : Int) < 2000000 := by omega
                  have hlg3 : decide ((2000000 : Int) ≤ (tb.size : Int) + (tc.size : Int)) = false := by simp; omega
                  clear Hbig hlg
                  go_wp2_with fail
                  go_quiet (first
                    | (go_at_call_of 78 (Value.pointer pb); exact Calls.quiet_of_same (size_q _ tb _ _ (Tr.keep (KeepTy.alloc _ _ _) _ _ htb)))
                    | (go_at_call_of 78 (Value.pointer pc); exact Calls.quiet_of_same (size_q _ tc _ _ (Tr.keep (KeepTy.alloc _ _ _) _ _ htc))))
                  go_upto_region 28 with fail
                  go_region_held3 (fun w' => w'.cell? ⟨wr.heap.size, 2, none⟩ = some (.int .i64 z.b) ∧ w'.cell? ⟨wr.heap.size, 3, none⟩ = some (.int .i64 z.c) ∧ w'.cell? ⟨w.heap.size, z.b.toNat, none⟩ = some (.pointer pb) ∧ w'.cell? ⟨w.heap.size, z.c.toNat, none⟩ = some (.pointer pc))
                    (first | go_keep | (go_simp))
                    (first | (go_at_call 81; refine (pair_c pb pc tb tc _ ?_ ?_ (by omega)).mono ?_; (exact Tr.keep (KeepTy.trans (KeepTy.alloc _ _ _) (KeepTy.drewN _ _ _)) _ _ htb); (exact Tr.keep (KeepTy.trans (KeepTy.alloc _ _ _) (KeepTy.drewN _ _ _)) _ _ htc); rintro e w' ⟨rfl, rfl⟩))
                  clear f1
                  go_wp2_with fail
                  go_meet
                  have hk : ∀ ty, KeepTy ty wr (((wr.alloc (.cells #[.int .i64 z.op, .int .i64 na, .int .i64 z.b, .int .i64 z.c, .string z.tree] 57)).alloc (.cells #[.pointer pb, .pointer pc, .int .i64 (T.node tb tc).size] 171)).drewN (nq + 1)) := fun ty => (KeepTy.alloc _ _ _).trans ((KeepTy.alloc _ _ _).trans (KeepTy.drewN _ _ _))
                  refine ⟨_, _, S2.out, by rw [S1.out]; rfl, rfl, ⟨_, pb, pc, rfl, ?_, Tr.keep (hk _) _ _ htb, Tr.keep (hk _) _ _ htc⟩, harr.keep (hk _) (hk _), hrow.keep (hk _) (hk _), ?_⟩
                  · exact heap_at (wr.alloc _) _ _ (by simp)
                  · exact below_drewN ((Below.refl _ _).alloc (by simp) _) _
              · obtain ⟨p1, hc1, ht1⟩ := harr.cell na (by rw [Hrl.out]; omega)
                have o0 : (z.op == 0) = false := by simp [h5]
                have o1 : (z.op == 1) = false := by simp [h5]
                have o2 : (z.op == 2) = false := by simp [h5]
                have o3 : (z.op == 3) = false := by simp [h5]
                have o4 : (z.op == 4) = false := by simp [h5]
                have o5 : (z.op == 5) = true := by simp [h5]
                have S2 := Lib.hid (show stepV z r = some (r.getD na .nil) by simp [stepV, h5, Hna.out])
                have hA : ∀ y1, stepA z at_ y1 = if y1.isNil = false then (at_ + z.b).toNat else at_ + 1 := by intro y1; simp [stepA, h5]
                have S1 := Lib.hid hA
                clear h5 hA
                generalize r.getD na .nil = tb at *
                cases tb with
                | nil =>
                  simp only [Tr] at ht1
                  subst ht1
                  go_wp2_with fail
                  go_meet
                  exact ⟨_, none, S2.out, by rw [S1.out]; rfl, rfl, rfl, harr.keep (KeepTy.alloc _ _ _) (KeepTy.alloc _ _ _), hrow.keep (KeepTy.alloc _ _ _) (KeepTy.alloc _ _ _), Below.refl _ _⟩
                | node t1 t2 =>
                  obtain ⟨bk, qa, qb, rfl, hbk, h1, h2⟩ := ht1
                  go_wp2_with fail
                  go_meet
                  refine ⟨_, _, S2.out, ?_, rfl, Tr.keep (KeepTy.alloc _ _ _) _ _ ⟨bk, qa, qb, rfl, hbk, h1, h2⟩, harr.keep (KeepTy.alloc _ _ _) (KeepTy.alloc _ _ _), hrow.keep (KeepTy.alloc _ _ _) (KeepTy.alloc _ _ _), Below.refl _ _⟩
                  rw [S1.out]
                  have e1 : (at_ : Int) + 1 + (z.b - 1) = (((at_ : Int) + z.b).toNat : Int) := by omega
                  exact congrArg (Value.int IntKind.i64) e1
            case rest =>
              obtain ⟨y1, p1, hV, rfl, rfl, ht1, harr2, hrow2, hbel2⟩ := hcut
              clear hcases
              have hy1 := stepV_size Hsz.out (by omega) (by omega) hV
              have hbnd := set_bound Hsz.out hy1 na
              obtain ⟨pa, hca, hta⟩ := harr2.cell na (by rw [Hrl.out]; omega)
              have hfr := harr2.frozen na
              have hza := getD_size Hsz.out (by omega) na
              have hss := sizes_set r na y1 (by rw [Hrl.out]; omega)
              have hle := size_le_sizes r na (by rw [Hrl.out]; omega)
              have hatb : stepA z at_ y1 ≤ l.length := by
                unfold stepA
                split
                · rename_i h5
                  rcases hcases2 with h | h
                  · omega
                  · omega
                · omega
              have hc1 : wc.cell? ⟨wr.heap.size, 1, none⟩ = some (.int .i64 na) := (hbel2.cell (p := ⟨wr.heap.size, 1, none⟩) (by simp)).trans (by simp)
              have hstep := Hstep.out
              unfold runNext at hstep
              rw [hV] at hstep
              simp only [Hna.out, Int.toNat_natCast] at hstep
              have Hst2 := Lib.hid hstep
              have harr3 := harr2.store (by decide) na y1 p1 ht1
              have hrow3 := hrow2.keep (harr2.keepTy (by decide) na (.pointer p1)) (harr2.keepTy (by decide) na (.pointer p1))
              have hbel3 : Below w.heap.size w (wc.setCell ⟨w.heap.size, na, none⟩ (.pointer p1)) := ((hbel.alloc hsize _).trans (hbel2.mono (by omega))).setCell (Nat.le_refl _) _
              clear hstep hV Hstep c0 c1 c2 c3 c4 harr hrow harr1 hrow1 hbel hbel2 harr2 hrow2
              generalize r.getD na .nil = ta at *
              have hall : ((sizes (r.set na y1) : Nat) : Int) = (sizes r : Int) + ((y1.size : Int) - (ta.size : Int)) := by omega
              have Hall := Lib.hid hall
              clear hall hss
              have f1 : IntKind.i64.wrap ((y1.size : Int) - (ta.size : Int)) = (y1.size : Int) - (ta.size : Int) := IntWalk.i64_in _ (by omega)
              have f2 : IntKind.i64.wrap ((sizes r : Int) + ((y1.size : Int) - (ta.size : Int))) = (sizes r : Int) + ((y1.size : Int) - (ta.size : Int)) := IntWalk.i64_in _ (by omega)
              go_wp2_with fail
              go_quiet (first
                | (go_at_call_of 78 (Value.pointer p1); exact Calls.quiet_of_same (size_q _ y1 _ _ ht1))
                | (go_at_call_of 78 (Value.pointer pa); exact Calls.quiet_of_same (size_q _ ta _ _ hta)))
              clear f1 f2
              rw [← Hall.out]
              generalize hS : sizes (r.set na y1) = S2 at *
              have HS := Lib.hid hS
              clear hS
              by_cases hmx : (ms : Int) < (S2 : Int)
              all_goals
                go_wp2_with fail
                go_roundw
                case rel =>
                  refine ⟨stepA z at_ y1, r.set na y1, max ms S2, kk + 1, f, hatb, by simp [Hrl.out], hbnd, rfl, by rw [HS.out], ?_, by go_num, by have := Hkf.out; omega, Hst2.out.symm, ?_, ?_, ?_⟩
                  · rw [← mx_nat]; simp [hmx]
                  · exact harr3.keep (KeepTy.drewN _ _ _) (KeepTy.drewN _ _ _)
                  · exact hrow3.keep (KeepTy.drewN _ _ _) (KeepTy.drewN _ _ _)
                  · exact below_drewN hbel3 _
                case measure => simp [intOf]; omega

end Go.Proofs.Ythmnbciefpkpmaa
