/- The walk of TopMany of narcissustop. -/
import Derived.Test.YthmnbciefpkpmaaPads
import Derived.Test.YthmnbciefpkpmaaTopCode
import Derived.Test.YthmnbciefpkpmaaTopRet
namespace Go.Proofs.Ythmnbciefpkpmaa
open Go.RowKit

theorem pad_q (ao : Option Addr) (b o cap : Nat) (l Q : List Ins) (n : Nat) (N : Int) (w : World) (hp : ProgIn w ao b o l) (hnil : ao = none → cap = 0) (hv : validP l = true) (hN : N = n) (hn : n ≤ 1000) (hl : l.length + n ≤ 4000) (hQ : Q = padP l n) :
    Calls Try.prog 47 #[.slice ao l.length cap, .int .i64 N] w fun e w' => (∃ g, e = .returned (.tuple #[.slice (some ⟨g, 0, none⟩) Q.length Q.length, .int .i64 0]) ∧ ProgIn w' (some ⟨g, 0, none⟩) g 0 Q) ∧ Below w.heap.size w w' := by
  subst hN hQ
  refine (pad_yes ao b o cap l n w hp hnil hv hn hl).mono ?_
  rintro e w' ⟨⟨g, rfl, hg⟩, hb⟩
  have hs : ∀ x ∈ padP l n, x.tree.size ≤ 140737488351232 := by
    intro x hx
    simp only [padP, List.mem_append, List.mem_replicate] at hx
    rcases hx with hx | ⟨_, rfl⟩
    · exact hp.sz x hx
    · exact Nat.zero_le _
  refine ⟨⟨g, by rw [padP_len], ?_⟩, hb⟩
  obtain ⟨b', hpi, _⟩ := (hg.own (by rw [padP_len]; omega)).progIn hs
  by_cases h0 : padP l n = []
  · rw [h0]
    exact ⟨fun h => absurd rfl h, fun i hi => absurd hi (Nat.not_lt_zero i), fun h => absurd rfl h, fun x hx => by simp at hx⟩
  · have := hpi.at_ h0
    simp only [Option.some.injEq, Addr.mk.injEq] at this
    obtain ⟨rfl, _⟩ := this
    exact hpi

theorem twin_q (ao : Option Addr) (b o cap : Nat) (l : List Ins) (w : World) (hp : ProgIn w ao b o l) (hlen : l.length ≤ 2932031007402) (hnil : ao = none → cap = 0) :
    Calls Try.prog 71 #[.slice ao l.length cap] w fun e w' => (∃ ao' cap' b', e = .returned (.slice ao' l.length cap') ∧ ProgIn w' ao' b' 0 l ∧ (ao' = none → cap' = 0)) ∧ Below w.heap.size w w' := by
  refine (top_twin_c ao b o cap l w hp hlen hnil).mono ?_
  rintro e w' ⟨⟨ao', cap', rfl, hown⟩, hb⟩
  obtain ⟨b', hpi, _⟩ := hown.progIn hp.sz
  refine ⟨⟨ao', cap', b', rfl, hpi, ?_⟩, hb⟩
  intro h
  rcases hown.2 with ⟨h1, _⟩ | ⟨g, c, cur, h1, _⟩
  · simp at h1; exact h1.2.2
  · simp [h] at h1

set_option maxRecDepth 100000 in
theorem many_no (ao : Option Addr) (b o cap : Nat) (l : List Ins) (n0 n1 : Int) (s : ByteArray) (w : World) (hp : ProgIn w ao b o l) (hlen : l.length ≤ 2932031007402)
    (h : goodP 200 5000 l = false ∨ (if (s.size : Int) > 2000 then none else treeOf s.data.toList) = none) :
    Calls Try.prog 19 #[.slice ao l.length cap, .agg #[.int .i64 n0, .int .i64 n1], .string s] w fun e w' => e = .returned (.bool true) ∧ Below w.heap.size w w' := by
  have hg := fun w hp => good_c ao b o cap l 200 5000 w hp (by omega) (by omega) (by omega)
  cases ht : (if (s.size : Int) > 2000 then none else treeOf s.data.toList) with
  | none =>
    have hgr := fun w => grow_no s 2000 w (by omega) ht
    have Hgr := Lib.hid hgr
    have Hg := Lib.hid hg
    clear hgr hg ht h
    generalize goodP 200 5000 l = G at *
    go_enter Try.func19, Try.ntmps19
    go_wp2_with fail
    refine (Hgr.out _).mono ?_
    rintro e w1 ⟨rfl, hb1⟩
    have hB1 := ((Below.refl w.heap.size w).alloc (Nat.le_refl _) (.cells #[.int .i64 n0, .int .i64 n1] 85 (0, 0))).trans (hb1.mono (by simp))
    cases G with
    | false =>
      go_wp2_with fail
      refine (Hg.out _ (hp.below hB1)).mono ?_
      rintro e w2 ⟨rfl, hb2⟩
      go_wp2_with fail
      refine (pads_c _).mono ?_
      rintro e w3 ⟨rfl, hb3⟩
      go_wp2_with fail
      go_ret
      exact ⟨rfl, hB1.trans ((hb2.mono hB1.size).trans (hb3.mono (Nat.le_trans hB1.size hb2.size)))⟩
    | true =>
      go_wp2_with fail
      refine (Hg.out _ (hp.below hB1)).mono ?_
      rintro e w2 ⟨rfl, hb2⟩
      go_wp2_with fail
      refine (pads_c _).mono ?_
      rintro e w3 ⟨rfl, hb3⟩
      go_wp2_with fail
      go_ret
      exact ⟨rfl, hB1.trans ((hb2.mono hB1.size).trans (hb3.mono (Nat.le_trans hB1.size hb2.size)))⟩
  | some x =>
    rw [ht] at h
    have hgf : goodP 200 5000 l = false := by
      rcases h with h | h
      · exact h
      · cases h
    rw [hgf] at hg
    have hgr := fun w => grow_yes s 2000 x w (by omega) ht
    have Hgr := Lib.hid hgr
    have Hg := Lib.hid hg
    clear hgr hg ht h hgf
    go_enter Try.func19, Try.ntmps19
    go_wp2_with fail
    refine (Hgr.out _).mono ?_
    rintro e w1 ⟨px, rfl, hx, hb1⟩
    have hB1 := ((Below.refl w.heap.size w).alloc (Nat.le_refl _) (.cells #[.int .i64 n0, .int .i64 n1] 85 (0, 0))).trans (hb1.mono (by simp))
    go_wp2_with fail
    refine (Hg.out _ (hp.below hB1)).mono ?_
    rintro e w2 ⟨rfl, hb2⟩
    go_wp2_with fail
    refine (pads_c _).mono ?_
    rintro e w3 ⟨rfl, hb3⟩
    go_wp2_with fail
    go_ret
    exact ⟨rfl, hB1.trans ((hb2.mono hB1.size).trans (hb3.mono (Nat.le_trans hB1.size hb2.size)))⟩

theorem rank_tree (t : T) (h : t.size ≤ 61) : rankV ⟨(enc t).toArray⟩ = .tuple #[.int .i64 (rankL (enc t)), .int .i64 0] ∧
    unrankV (rankL (enc t)) = .tuple #[.string ⟨(enc t).toArray⟩, .int .i64 0] ∧ rankL (enc t) ≤ 4611686018427387904 := by
  have hl : (⟨(enc t).toArray⟩ : ByteArray).data.toList = enc t := by simp
  have hz : (⟨(enc t).toArray⟩ : ByteArray).size = t.size := by rw [← enc_len]; simp [ByteArray.size]
  have hv : validB ⟨(enc t).toArray⟩ = true := (validB_iff _).2 ⟨t, hl, by omega⟩
  obtain ⟨hw, hsz⟩ := validB_word hv
  rw [hl, hz] at hw
  rw [hz] at hsz
  refine ⟨?_, ?_, ?_⟩
  · unfold rankV
    rw [if_pos hv, hz, if_pos (by omega), hl]
  · unfold unrankV
    rw [if_neg (by omega), Int.toNat_natCast, unrank_rank hw (by omega)]
  · have hr := hw.rk_lt
    have hb := base_lim31 (k := t.size / 2 + 1) (by omega)
    unfold rankL
    rw [enc_len]
    simp only [base] at hb
    omega

theorem mod60 (n : Int) : ∃ k : Nat, (n.tmod 60 + 60).tmod 60 = (k : Int) ∧ k < 60 ∧ -60 < n.tmod 60 ∧ n.tmod 60 < 60 := by
  have h1 := Int.tmod_lt_of_pos n (show (0 : Int) < 60 by decide)
  have h2 : -60 < n.tmod 60 := by
    have h5 := Int.tmod_lt_of_pos (-n) (show (0 : Int) < 60 by decide)
    rw [Int.neg_tmod] at h5
    omega
  have h3 := Int.tmod_lt_of_pos (n.tmod 60 + 60) (show (0 : Int) < 60 by decide)
  have h4 := Int.tmod_nonneg 60 (show 0 ≤ n.tmod 60 + 60 by omega)
  exact ⟨((n.tmod 60 + 60).tmod 60).toNat, by omega, by omega, h2, h1⟩

set_option maxRecDepth 100000 in
set_option maxHeartbeats 2000000 in
theorem many_yes (ao : Option Addr) (b o cap : Nat) (l : List Ins) (n0 n1 : Int) (s : ByteArray) (x : T) (w : World) (hp : ProgIn w ao b o l) (hnil : ao = none → cap = 0)
    (hg : goodP 200 5000 l = true) (ht : (if (s.size : Int) > 2000 then none else treeOf s.data.toList) = some x) :
    Calls Try.prog 19 #[.slice ao l.length cap, .agg #[.int .i64 n0, .int .i64 n1], .string s] w fun e w' => e = .returned (.bool true) ∧ Below w.heap.size w w' := by
  have hgr := fun w => grow_yes s 2000 x w (by omega) ht
  have hgc := fun w hp => good_c ao b o cap l 200 5000 w hp (by omega) (by omega) (by have := goodP_len hg; omega)
  rw [hg] at hgc
  have hxs : x.size ≤ 2000 := by
    split at ht
    · simp at ht
    · have := congrArg List.length (treeOf_some ht)
      rw [enc_len] at this
      simp at this
      omega
  have hlen := goodP_len hg
  have Hgr := Lib.hid hgr
  have Hg := Lib.hid hgc
  have Hgood := Lib.hid hg
  have Hnil := Lib.hid hnil
  clear hgr hg ht hgc hnil
  obtain ⟨n, hn, hn60, a1, a2⟩ := mod60 n0
  obtain ⟨m, hm, hm60, a3, a4⟩ := mod60 n1
  have Hn := Lib.hid (And.intro hn hm)
  clear hn hm
  have r1 : IntKind.i64.wrap (n0.tmod 60 + 60) = n0.tmod 60 + 60 := IntWalk.i64_in _ (by omega)
  have r2 : IntKind.i64.wrap (n1.tmod 60 + 60) = n1.tmod 60 + 60 := IntWalk.i64_in _ (by omega)
  clear a1 a2 a3 a4
  go_enter Try.func19, Try.ntmps19
  go_wp2_with fail
  refine (Hgr.out _).mono ?_
  rintro e w1 ⟨px, rfl, hx, hb1⟩
  have hbox1 : (w.alloc (.cells #[.int .i64 n0, .int .i64 n1] 85 (0, 0))).heap[w.heap.size]? = some (.cells #[.int .i64 n0, .int .i64 n1] 85 (0, 0)) := heap_alloc_new _ _
  have hB1 := ((Below.refl w.heap.size w).alloc (Nat.le_refl _) (.cells #[.int .i64 n0, .int .i64 n1] 85 (0, 0))).trans (hb1.mono (by simp))
  rw [← hb1.block w.heap.size (by simp)] at hbox1
  have hp1 := hp.below hB1
  have hsz1 : w.heap.size < w1.heap.size := lt_of_block hbox1
  go_wp2_with fail
  refine (Hg.out _ hp1).mono ?_
  rintro e w2 ⟨rfl, hb2⟩
  have hB2 := hB1.trans (hb2.mono hB1.size)
  have hbox2 := hbox1
  rw [← hb2.block w.heap.size hsz1] at hbox2
  have c0 : w2.cell? ⟨w.heap.size, 0, none⟩ = some (.int .i64 n0) := cell_of_block hbox2 0
  have c1 : w2.cell? ⟨w.heap.size, 1, none⟩ = some (.int .i64 n1) := cell_of_block hbox2 1
  have hp2 := hp1.below hb2
  have hx2 := hx.below hb2
  clear hbox1 hbox2 hp1 hx hb1 hb2 hp hsz1
  go_wp2_with fail
  go_region
  clear r1 r2 c0 c1
  have hN := Hn.out.1
  have hM := Hn.out.2
  generalize (n0.tmod 60 + 60).tmod 60 = N at *
  generalize (n1.tmod 60 + 60).tmod 60 = M at *
  have HN := Lib.hid hN
  have HM := Lib.hid hM
  have hNb : 0 ≤ N := by omega
  have hNb2 : N < 60 := by omega
  clear Hn hN hM
  have hnm : ((N == M) = (decide (n = m))) := by
    rw [HN.out, HM.out, Bool.eq_iff_iff, beq_iff_eq, decide_eq_true_eq]; omega
  have hQ := padP_len l n
  have hR := padP_len l m
  have hqg : goodP 4000 2000000 (padP l n) = true := goodP_pad Hgood.out (by omega) (by omega) (by omega)
  have hrg : goodP 4000 2000000 (padP l m) = true := goodP_pad Hgood.out (by omega) (by omega) (by omega)
  have hlg : goodP 4000 2000000 l = true := goodP_mono Hgood.out (by omega) (by omega) (by omega)
  have hcz := codeT_size_good (by omega) hqg
  have hcz2 := codeT_size_good (by omega) hrg
  have hpe : (enc (codeT (padP l n)) = enc (codeT (padP l m))) ↔ n = m := ⟨fun h => codeT_pad_eq.1 (enc_inj h), fun h => by rw [h]⟩
  have hec : decide (enc (codeT (padP l n)) = enc (codeT (padP l m))) = decide (n = m) := by rw [Bool.eq_iff_iff, decide_eq_true_eq, decide_eq_true_eq]; exact hpe
  have hends := fun y k ms h => follow_pad_ends (n := n) Hgood.out (x := x) (y := y) (f := 500) (k := k) (ms := ms) h
  have hgoes := fun y k ms h => follow_pad_goes (n := n) Hgood.out (x := x) (y := y) (f := 500) (k := k) (ms := ms) h
  generalize hq : padP l n = Q at *
  generalize hr : padP l m = R at *
  generalize decide (n = m) = E at *
  have HQ := Lib.hid (And.intro hq hQ)
  have HR := Lib.hid (And.intro hr hR)
  have Hqg := Lib.hid hqg
  have Hrg := Lib.hid hrg
  have Hlg := Lib.hid hlg
  have Hec := Lib.hid hec
  have Hends := Lib.hid hends
  have Hgoes := Lib.hid hgoes
  clear hq hr hQ hR hqg hrg hlg hpe hec hends hgoes
  have hp2' : ProgIn w2.drew ao b o l := hp2.drew
  have hx2' : Tr 171 w2.drew x px := Tr.keep (KeepTy.drew _ _) _ _ hx2
  have hB2' : Below w.heap.size w w2.drew := hB2.drew
  clear hp2 hx2 hB2 hB1
  generalize w2.drew = w3 at *
  -- the first twin
  go_wp2_with fail
  refine (twin_q ao b o cap l _ hp2' (by omega) Hnil.out).mono ?_
  rintro e w4 ⟨⟨ao4, cap4, b4, rfl, hp4, hn4⟩, hb4⟩
  have Hn4 := Lib.hid hn4
  have hx4 := hx2'.below hb4
  have hpp4 := hp2'.below hb4
  have hB4 := hB2'.trans (hb4.mono hB2'.size)
  clear hn4 hb4 hx2' hp2' hB2'
  go_wp2_with fail
  refine (pad_q ao4 b4 0 cap4 l Q n N _ hp4 Hn4.out Hlg.out HN.out (by omega) (by omega) HQ.out.1.symm).mono ?_
  rintro e w5 ⟨⟨g5, rfl, hq5⟩, hb5⟩
  have hx5 := hx4.below hb5
  have hpp5 := hpp4.below hb5
  have hB5 := hB4.trans (hb5.mono hB4.size)
  clear hb5 hx4 hp4 hpp4 hB4 Hn4
  -- the second one
  go_wp2_with fail
  refine (twin_q ao b o cap l _ hpp5 (by omega) Hnil.out).mono ?_
  rintro e w6 ⟨⟨ao6, cap6, b6, rfl, hp6, hn6⟩, hb6⟩
  have Hn6 := Lib.hid hn6
  have hx6 := hx5.below hb6
  have hpp6 := hpp5.below hb6
  have hq6 := hq5.below hb6
  have hB6 := hB5.trans (hb6.mono hB5.size)
  clear hn6 hb6 hx5 hpp5 hq5 hB5
  go_wp2_with fail
  refine (pad_q ao6 b6 0 cap6 l R m M _ hp6 Hn6.out Hlg.out HM.out (by omega) (by omega) HR.out.1.symm).mono ?_
  rintro e w7 ⟨⟨g7, rfl, hr7⟩, hb7⟩
  have hx7 := hx6.below hb7
  have hpp7 := hpp6.below hb7
  have hq7 := hq6.below hb7
  have hB7 := hB6.trans (hb7.mono hB6.size)
  clear hb7 hx6 hp6 hpp6 hq6 hB6 Hn6
  go_wp2_with fail
  refine (whole_c _ _ _ _ Q _ hq7 (by have := HQ.out.2; omega)).mono ?_
  rw [Hqg.out]
  rintro e w8 ⟨rfl, hb8⟩
  have hx8 := hx7.below hb8
  have hpp8 := hpp7.below hb8
  have hq8 := hq7.below hb8
  have hr8 := hr7.below hb8
  have hB8 := hB7.trans (hb8.mono hB7.size)
  clear hb8 hx7 hpp7 hq7 hr7 hB7
  go_wp2_with fail
  refine (whole_c _ _ _ _ R _ hr8 (by have := HR.out.2; omega)).mono ?_
  rw [Hrg.out]
  rintro e w9 ⟨rfl, hb9⟩
  have hx9 := hx8.below hb9
  have hpp9 := hpp8.below hb9
  have hq9 := hq8.below hb9
  have hr9 := hr8.below hb9
  have hB9 := hB8.trans (hb9.mono hB8.size)
  clear hb9 hx8 hpp8 hq8 hr8 hB8
  go_wp2_with fail
  refine (code_c _ _ _ _ Q 4000 _ hq9 Hqg.out (by omega)).mono ?_
  rintro e w10 ⟨⟨pq, rfl, hcq⟩, hb10⟩
  have hx10 := hx9.below hb10
  have hpp10 := hpp9.below hb10
  have hq10 := hq9.below hb10
  have hr10 := hr9.below hb10
  have hB10 := hB9.trans (hb10.mono hB9.size)
  clear hb10 hx9 hpp9 hq9 hr9 hB9
  go_wp2_with fail
  refine (code_c _ _ _ _ R 4000 _ hr10 Hrg.out (by omega)).mono ?_
  rintro e w11 ⟨⟨pr, rfl, hcr⟩, hb11⟩
  have hx11 := hx10.below hb11
  have hpp11 := hpp10.below hb11
  have hq11 := hq10.below hb11
  have hcq11 := hcq.below hb11
  have hB11 := hB10.trans (hb11.mono hB10.size)
  clear hb11 hx10 hpp10 hq10 hr10 hB10 hcq
  go_wp2_with fail
  refine (equal_c pq pr (codeT Q) (codeT R) _ hcq11 hcr (by omega) (by omega)).mono ?_
  rw [Hec.out]
  rintro e w12 ⟨rfl, hb12⟩
  have hx12 := hx11.below hb12
  have hpp12 := hpp11.below hb12
  have hq12 := hq11.below hb12
  have hB12 := hB11.trans (hb12.mono hB11.size)
  clear hb12 hx11 hpp11 hq11 hB11 hcq11 hcr
  go_wp2_with fail
  obtain ⟨y, k, how, ms, hrun⟩ : ∃ y k how ms, followP l x 500 = (y, k, how, ms) := ⟨_, _, _, _, rfl⟩
  have hyz := followP_size Hlg.out (M := 2000001) (Nat.le_refl _) (by omega) hrun
  have hpl := play_c ao b o cap l 4000 px x 500 w12 y k how ms hpp12 Hlg.out (by omega) hx12 (by omega) (by omega) hrun
  have Hrun := Lib.hid hrun
  have Hpl := Lib.hid hpl
  clear hpl hrun
  refine (Hpl.out).mono ?_
  rintro e w13 ⟨⟨py, rfl, hy13⟩, hb13⟩
  have hx13 := hx12.below hb13
  have hq13 := hq12.below hb13
  have hB13 := hB12.trans (hb13.mono hB12.size)
  clear hb13 hx12 hpp12 hq12 hB12 Hpl
  have h3 : how = 0 ∨ how = 1 ∨ (how ≠ 0 ∧ how ≠ 1) := by omega
  rcases h3 with rfl | rfl | ⟨h0, h1⟩
  · obtain ⟨hk, ms', hret⟩ := Hends.out y k ms Hrun.out
    have hret2 := returns_c (some ⟨g5, 0, none⟩) g5 0 Q.length Q px py x y (k + n) ms' w13 hq13 Hqg.out (by have := HQ.out.2; omega) hx13 hy13 (by omega) (by omega) (by omega) hret
    rw [show (((k + n : Nat)) : Int) = (k : Int) + N by have := HN.out; omega] at hret2
    have Hret := Lib.hid hret2
    clear hret hret2
    go_wp2_with fail
    refine (Hret.out).mono ?_
    rintro e w14 ⟨rfl, hb14⟩
    have hq14 := hq13.below hb14
    have hB14 := hB13.trans (hb14.mono hB13.size)
    clear hb14 hx13 hq13 hB13 hy13 Hret
    go_wp2_with fail
    refine (code_c _ _ _ _ Q 4000 _ hq14 Hqg.out (by omega)).mono ?_
    rintro e w15 ⟨⟨pc, rfl, hc15⟩, hb15⟩
    have hB15 := hB14.trans (hb15.mono hB14.size)
    clear hb15 hq14 hB14
    go_wp2_with fail
    refine (size_c pc (codeT Q) _ hc15).mono ?_
    rintro e w' ⟨rfl, rfl⟩
    by_cases hbig : (60 : Int) < ((codeT Q).size : Int)
    · go_wp2_with fail
      refine (pads_c _).mono ?_
      rintro e w16 ⟨rfl, hb16⟩
      go_wp2_with fail
      go_ret
      exact ⟨rfl, hB15.trans (hb16.mono hB15.size)⟩
    · obtain ⟨hrv, huv, hrl⟩ := rank_tree (codeT Q) (by omega)
      have hsm : ((codeT Q).size : Int) ≤ 60 := by omega
      have hUs : (⟨(enc (codeT Q)).toArray⟩ : ByteArray).size ≤ 1000 := by
        have : (⟨(enc (codeT Q)).toArray⟩ : ByteArray).size = (codeT Q).size := by rw [← enc_len]; simp [ByteArray.size]
        omega
      have htx := fun w h => text_c pc (codeT Q) w h (by omega)
      have hrk := fun w => rank_c ⟨(enc (codeT Q)).toArray⟩ w (by omega)
      have hur := fun w => unrank_c (rankL (enc (codeT Q))) w (by omega)
      rw [hrv] at hrk
      rw [huv] at hur
      generalize (⟨(enc (codeT Q)).toArray⟩ : ByteArray) = U at *
      generalize rankL (enc (codeT Q)) = K at *
      have Htx := Lib.hid htx
      have Hrk := Lib.hid hrk
      have Hur := Lib.hid hur
      clear htx hrk hur hrv huv hbig
      go_wp2_with fail
      refine (Htx.out _ hc15).mono ?_
      rintro e w16 ⟨rfl, hb16⟩
      have hc16 := hc15.below hb16
      have hB16 := hB15.trans (hb16.mono hB15.size)
      clear hb16 hc15 hB15
      go_wp2_with fail
      refine (Hrk.out _).mono ?_
      rintro e w17 ⟨rfl, hb17⟩
      have hc17 := hc16.below hb17
      have hB17 := hB16.trans (hb17.mono hB16.size)
      clear hb17 hc16 hB16
      go_wp2_with fail
      refine (Hur.out _).mono ?_
      rintro e w18 ⟨rfl, hb18⟩
      have hc18 := hc17.below hb18
      have hB18 := hB17.trans (hb18.mono hB17.size)
      clear hb18 hc17 hB17
      go_wp2_with fail
      refine (Htx.out _ hc18).mono ?_
      rintro e w19 ⟨rfl, hb19⟩
      have hB19 := hB18.trans (hb19.mono hB18.size)
      clear hb19 hc18 hB18
      go_wp2_with fail
      refine (pads_c _).mono ?_
      rintro e w20 ⟨rfl, hb20⟩
      go_wp2_with fail
      go_ret
      exact ⟨rfl, hB19.trans (hb20.mono hB19.size)⟩
  · obtain ⟨y', k2, h', ms', hl', hn'⟩ := Hgoes.out y k ms Hrun.out
    have hlast := lasts_c (some ⟨g5, 0, none⟩) g5 0 Q.length Q px x y' 500 k2 h' ms' w13 hq13 Hqg.out (by have := HQ.out.2; omega) hx13 (by omega) (by omega) hl' hn'
    have Hlast := Lib.hid hlast
    clear hlast hl' hn'
    go_wp2_with fail
    refine (Hlast.out).mono ?_
    rintro e w14 ⟨rfl, hb14⟩
    have hq14 := hq13.below hb14
    have hB14 := hB13.trans (hb14.mono hB13.size)
    clear hb14 hx13 hq13 hB13 hy13 Hlast
    go_wp2_with fail
    refine (code_c _ _ _ _ Q 4000 _ hq14 Hqg.out (by omega)).mono ?_
    rintro e w15 ⟨⟨pc, rfl, hc15⟩, hb15⟩
    have hB15 := hB14.trans (hb15.mono hB14.size)
    clear hb15 hq14 hB14
    go_wp2_with fail
    refine (size_c pc (codeT Q) _ hc15).mono ?_
    rintro e w' ⟨rfl, rfl⟩
    by_cases hbig : (60 : Int) < ((codeT Q).size : Int)
    · go_wp2_with fail
      refine (pads_c _).mono ?_
      rintro e w16 ⟨rfl, hb16⟩
      go_wp2_with fail
      go_ret
      exact ⟨rfl, hB15.trans (hb16.mono hB15.size)⟩
    · obtain ⟨hrv, huv, hrl⟩ := rank_tree (codeT Q) (by omega)
      have hsm : ((codeT Q).size : Int) ≤ 60 := by omega
      have hUs : (⟨(enc (codeT Q)).toArray⟩ : ByteArray).size ≤ 1000 := by
        have : (⟨(enc (codeT Q)).toArray⟩ : ByteArray).size = (codeT Q).size := by rw [← enc_len]; simp [ByteArray.size]
        omega
      have htx := fun w h => text_c pc (codeT Q) w h (by omega)
      have hrk := fun w => rank_c ⟨(enc (codeT Q)).toArray⟩ w (by omega)
      have hur := fun w => unrank_c (rankL (enc (codeT Q))) w (by omega)
      rw [hrv] at hrk
      rw [huv] at hur
      generalize (⟨(enc (codeT Q)).toArray⟩ : ByteArray) = U at *
      generalize rankL (enc (codeT Q)) = K at *
      have Htx := Lib.hid htx
      have Hrk := Lib.hid hrk
      have Hur := Lib.hid hur
      clear htx hrk hur hrv huv hbig
      go_wp2_with fail
      refine (Htx.out _ hc15).mono ?_
      rintro e w16 ⟨rfl, hb16⟩
      have hc16 := hc15.below hb16
      have hB16 := hB15.trans (hb16.mono hB15.size)
      clear hb16 hc15 hB15
      go_wp2_with fail
      refine (Hrk.out _).mono ?_
      rintro e w17 ⟨rfl, hb17⟩
      have hc17 := hc16.below hb17
      have hB17 := hB16.trans (hb17.mono hB16.size)
      clear hb17 hc16 hB16
      go_wp2_with fail
      refine (Hur.out _).mono ?_
      rintro e w18 ⟨rfl, hb18⟩
      have hc18 := hc17.below hb18
      have hB18 := hB17.trans (hb18.mono hB17.size)
      clear hb18 hc17 hB17
      go_wp2_with fail
      refine (Htx.out _ hc18).mono ?_
      rintro e w19 ⟨rfl, hb19⟩
      have hB19 := hB18.trans (hb19.mono hB18.size)
      clear hb19 hc18 hB18
      go_wp2_with fail
      refine (pads_c _).mono ?_
      rintro e w20 ⟨rfl, hb20⟩
      go_wp2_with fail
      go_ret
      exact ⟨rfl, hB19.trans (hb20.mono hB19.size)⟩
  · have hh0 : ((how : Int) == 0) = false := by simp; omega
    have hh1 : ((how : Int) == 1) = false := by simp; omega
    have hq14 := hq13
    have hB14 := hB13
    clear h0 h1 hx13 hq13 hB13 hy13
    go_wp2_with fail
    refine (code_c _ _ _ _ Q 4000 _ hq14 Hqg.out (by omega)).mono ?_
    rintro e w15 ⟨⟨pc, rfl, hc15⟩, hb15⟩
    have hB15 := hB14.trans (hb15.mono hB14.size)
    clear hb15 hq14 hB14
    go_wp2_with fail
    refine (size_c pc (codeT Q) _ hc15).mono ?_
    rintro e w' ⟨rfl, rfl⟩
    by_cases hbig : (60 : Int) < ((codeT Q).size : Int)
    · go_wp2_with fail
      refine (pads_c _).mono ?_
      rintro e w16 ⟨rfl, hb16⟩
      go_wp2_with fail
      go_ret
      exact ⟨rfl, hB15.trans (hb16.mono hB15.size)⟩
    · obtain ⟨hrv, huv, hrl⟩ := rank_tree (codeT Q) (by omega)
      have hsm : ((codeT Q).size : Int) ≤ 60 := by omega
      have hUs : (⟨(enc (codeT Q)).toArray⟩ : ByteArray).size ≤ 1000 := by
        have : (⟨(enc (codeT Q)).toArray⟩ : ByteArray).size = (codeT Q).size := by rw [← enc_len]; simp [ByteArray.size]
        omega
      have htx := fun w h => text_c pc (codeT Q) w h (by omega)
      have hrk := fun w => rank_c ⟨(enc (codeT Q)).toArray⟩ w (by omega)
      have hur := fun w => unrank_c (rankL (enc (codeT Q))) w (by omega)
      rw [hrv] at hrk
      rw [huv] at hur
      generalize (⟨(enc (codeT Q)).toArray⟩ : ByteArray) = U at *
      generalize rankL (enc (codeT Q)) = K at *
      have Htx := Lib.hid htx
      have Hrk := Lib.hid hrk
      have Hur := Lib.hid hur
      clear htx hrk hur hrv huv hbig
      go_wp2_with fail
      refine (Htx.out _ hc15).mono ?_
      rintro e w16 ⟨rfl, hb16⟩
      have hc16 := hc15.below hb16
      have hB16 := hB15.trans (hb16.mono hB15.size)
      clear hb16 hc15 hB15
      go_wp2_with fail
      refine (Hrk.out _).mono ?_
      rintro e w17 ⟨rfl, hb17⟩
      have hc17 := hc16.below hb17
      have hB17 := hB16.trans (hb17.mono hB16.size)
      clear hb17 hc16 hB16
      go_wp2_with fail
      refine (Hur.out _).mono ?_
      rintro e w18 ⟨rfl, hb18⟩
      have hc18 := hc17.below hb18
      have hB18 := hB17.trans (hb18.mono hB17.size)
      clear hb18 hc17 hB17
      go_wp2_with fail
      refine (Htx.out _ hc18).mono ?_
      rintro e w19 ⟨rfl, hb19⟩
      have hB19 := hB18.trans (hb19.mono hB18.size)
      clear hb19 hc18 hB18
      go_wp2_with fail
      refine (pads_c _).mono ?_
      rintro e w20 ⟨rfl, hb20⟩
      go_wp2_with fail
      go_ret
      exact ⟨rfl, hB19.trans (hb20.mono hB19.size)⟩

end Go.Proofs.Ythmnbciefpkpmaa
