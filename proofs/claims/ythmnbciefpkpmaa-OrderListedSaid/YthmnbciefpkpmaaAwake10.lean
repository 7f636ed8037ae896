/- The walk of awake of narcissuslaw10: the examples of the chapter hold. -/
import Derived.Test.YthmnbciefpkpmaaListing
import Derived.Test.YthmnbciefpkpmaaSame
namespace Go.Proofs.Ythmnbciefpkpmaa
open Go.RowKit

theorem w11 : ways 1 1 = 1 := by rw [show (1 : Nat) = 0 + 1 from rfl, ways_ko, ways_k0, ways_zero]
theorem w12 : ways 1 2 = 2 := by
  have := ways_ko 0 1
  rw [ways_zero] at this
  show ways (0 + 1) (1 + 1) = 2
  rw [this]
  show ways 1 1 + 1 = 2
  rw [w11]
theorem w13 : ways 1 3 = 3 := by
  have := ways_ko 0 2
  rw [ways_zero] at this
  show ways (0 + 1) (2 + 1) = 3
  rw [this]
  show ways 1 2 + 1 = 3
  rw [w12]
theorem w20 : ways 2 0 = 0 := ways_k0 1
theorem w10 : ways 1 0 = 0 := ways_k0 0
theorem w30 : ways 3 0 = 0 := ways_k0 2
theorem w21 : ways 2 1 = 2 := by
  have : ways (1 + 1) (0 + 1) = ways (1 + 1) 0 + ways 1 (0 + 2) := ways_ko 1 0
  show ways (1 + 1) (0 + 1) = 2
  rw [this]
  show ways 2 0 + ways 1 2 = 2
  rw [w20, w12]
theorem w22 : ways 2 2 = 5 := by
  have : ways (1 + 1) (1 + 1) = ways (1 + 1) 1 + ways 1 (1 + 2) := ways_ko 1 1
  show ways (1 + 1) (1 + 1) = 5
  rw [this]
  show ways 2 1 + ways 1 3 = 5
  rw [w21, w13]
theorem w31 : ways 3 1 = 5 := by
  have : ways (2 + 1) (0 + 1) = ways (2 + 1) 0 + ways 2 (0 + 2) := ways_ko 2 0
  show ways (2 + 1) (0 + 1) = 5
  rw [this]
  show ways 3 0 + ways 2 2 = 5
  rw [w30, w22]

theorem base_2 : base 2 = 2 := by simp [base, ways_zero, w11]
theorem base_3 : base 3 = 4 := by simp [base, ways_zero, w11, w21]
theorem base_4 : base 4 = 9 := by simp [base, ways_zero, w11, w21, w31]
theorem nine_31 : 9 < base 31 := by
  have := base_mono (show 4 ≤ 30 by omega)
  have h : base 30 < base 31 := base_lt 30
  rw [base_4] at this
  omega

def t1 : T := .node .nil .nil
def t2 : T := .node .nil t1
def t3 : T := .node t1 .nil
def t4 : T := .node .nil t2
def t5 : T := .node .nil t3
def t6 : T := .node t1 t1
def t7 : T := .node t2 .nil

theorem r1 : rankL (enc t1) = 1 := by
  simp [rankL, enc, t1, rk, base, ways_zero, w10]
theorem r2 : rankL (enc t2) = 2 := by
  simp [rankL, enc, t1, t2, rk, base, ways_zero, w10, w20, w11]
theorem r3 : rankL (enc t3) = 3 := by
  simp [rankL, enc, t1, t3, rk, base, ways_zero, w20, w11]
theorem r4 : rankL (enc t4) = 4 := by
  simp [rankL, enc, t1, t2, t4, rk, base, ways_zero, w10, w20, w11, w21, w30]
theorem r5 : rankL (enc t5) = 5 := by
  simp [rankL, enc, t1, t3, t5, rk, base, ways_zero, w20, w11, w21, w30]
theorem r6 : rankL (enc t6) = 6 := by
  simp [rankL, enc, t1, t6, rk, base, ways_zero, w10, w11, w21, w30]
theorem r7 : rankL (enc t7) = 7 := by
  simp [rankL, enc, t1, t2, t7, rk, base, ways_zero, w11, w21, w30]

def setNil : Ins := ⟨0, 0, 0, 0, ⟨#[48]⟩⟩

theorem d0 : decP .nil = some [] := by kernel_rfl
theorem d1 : decP t1 = none := by kernel_rfl
theorem d2 : decP t2 = none := by kernel_rfl
theorem d3 : decP t3 = none := by kernel_rfl
theorem d4 : decP t4 = none := by kernel_rfl
theorem d5 : decP t5 = none := by kernel_rfl
theorem d6 : decP t6 = none := by kernel_rfl
theorem d7 : decP t7 = some [setNil] := by kernel_rfl

theorem progs_3 : ∃ r, progs 3 = [] :: [setNil] :: r := by
  have h := nine_31
  have p : progsTo 8 = [[], [setNil]] := by
    simp only [progsTo, treeAt_zero, d0, treeAt_rank (show 1 < base 31 by omega) r1, d1, treeAt_rank (show 0 + 1 + 1 < base 31 by omega) r2, d2, treeAt_rank (show 0 + 1 + 1 + 1 < base 31 by omega) r3, d3,
      treeAt_rank (show 0 + 1 + 1 + 1 + 1 < base 31 by omega) r4, d4, treeAt_rank (show 0 + 1 + 1 + 1 + 1 + 1 < base 31 by omega) r5, d5, treeAt_rank (show 0 + 1 + 1 + 1 + 1 + 1 + 1 < base 31 by omega) r6, d6, treeAt_rank (show 0 + 1 + 1 + 1 + 1 + 1 + 1 + 1 < base 31 by omega) r7, d7]
    rfl
  have e : progs 3 = progsTo (8 + 1) := by simp only [progs]; rw [base_4]
  rw [e, progsTo, p]
  cases decP (treeAt 8) with
  | none => exact ⟨[], rfl⟩
  | some l => exact ⟨[l], rfl⟩

theorem rank_tree10 (t : T) (h : t.size ≤ 61) : rankV ⟨(enc t).toArray⟩ = .tuple #[.int .i64 (rankL (enc t)), .int .i64 0] ∧
    unrankV (rankL (enc t)) = .tuple #[.string ⟨(enc t).toArray⟩, .int .i64 0] ∧ rankL (enc t) ≤ 4611686018427387904 := by
  have hl : (⟨(enc t).toArray⟩ : ByteArray).data.toList = enc t := by simp
  have hz : (⟨(enc t).toArray⟩ : ByteArray).size = t.size := by rw [← enc_len]; simp [ByteArray.size]
  have hv : validB ⟨(enc t).toArray⟩ = true := (validB_iff _).2 ⟨t, hl, by omega⟩
  obtain ⟨hw, hsz⟩ := validB_word hv
  rw [hl, hz] at hw
  rw [hz] at hsz
  refine ⟨?_, ?_, ?_⟩
  · unfold rankV
    rw [if_pos hv, hz, if_pos (by omega), hl]
  · unfold unrankV
    rw [if_neg (by omega), Int.toNat_natCast, unrank_rank hw (by omega)]
  · have hr := hw.rk_lt
    have hb := base_lim31 (k := t.size / 2 + 1) (by omega)
    unfold rankL
    rw [enc_len]
    simp only [base] at hb
    omega

theorem rank_ex : rankV ⟨#[49, 48, 49, 48, 49, 48, 48]⟩ = .tuple #[.int .i64 4, .int .i64 0] := by
  have h := (rank_tree10 t4 (by decide)).1
  rw [r4] at h
  exact h

theorem unrank_ex : unrankV 3 = .tuple #[.string ⟨#[49, 49, 48, 48, 48]⟩, .int .i64 0] := by
  have h := (rank_tree10 t3 (by decide)).2.1
  rw [r3] at h
  exact h

set_option maxRecDepth 100000 in
set_option maxHeartbeats 1000000 in
theorem awake10_c (w : World) : Calls Try.prog 25 #[] w fun e w' => e = .returned (.bool true) ∧ Below w.heap.size w w' := by
  have k1 := fun w => rank_c ⟨#[49, 48, 49, 48, 49, 48, 48]⟩ w (by decide)
  have k2 := fun w => unrank_c 3 w (by decide)
  have k3 := fun w => next_c ⟨#[49, 49, 48, 48, 48]⟩ w (by decide)
  have k4 := fun w => programs_c 3 w (by decide)
  rw [rank_ex] at k1
  rw [unrank_ex] at k2
  rw [next_one] at k3
  obtain ⟨r, hr⟩ := progs_3
  rw [hr] at k4
  have K1 := Lib.hid k1
  have K2 := Lib.hid k2
  have K3 := Lib.hid k3
  have K4 := Lib.hid k4
  clear k1 k2 k3 k4 hr
  go_enter Try.func25, Try.ntmps25
  go_wp2_with fail
  refine (K1.out _).mono ?_
  rintro e w1 ⟨rfl, hb1⟩
  go_wp2_with fail
  refine (K2.out _).mono ?_
  rintro e w2 ⟨rfl, hb2⟩
  go_wp2_with fail
  refine (K3.out _).mono ?_
  rintro e w3 ⟨rfl, hb3⟩
  have hb13 := hb1.trans ((hb2.mono hb1.size).trans (hb3.mono (Nat.le_trans hb1.size hb2.size)))
  have hB3 := hb13.size
  clear hb1 hb2 hb3
  go_wp2_with fail
  refine (K4.out _).mono ?_
  rintro e w4 ⟨⟨ao, cap, rfl, hps⟩, hb4⟩
  obtain ⟨vs, hvs, a0, c0, v0, rfl, _, _, a1, c1, v1, rfl, hown1, hx1, _⟩ := hps
  obtain ⟨g, rfl⟩ : ∃ g, ao = some ⟨g, 0, none⟩ := by
    rcases hvs.2 with ⟨h0, h1⟩ | ⟨g, cap', cur, hv, _⟩
    · simp at h1
    · simp only [Value.slice.injEq] at hv
      exact ⟨g, hv.1⟩
  have e0 : w4.cell? ⟨g, 0, none⟩ = some (.slice a0 0 c0) := by
    have := hvs.cellAt 0 (by simp)
    simpa using this
  have e1 : w4.cell? ⟨g, 1, none⟩ = some (.slice a1 1 c1) := by
    have := hvs.cellAt 1 (by simp)
    simpa using this
  obtain ⟨b1, hp1, _⟩ := hown1.progIn (fun x hx => Nat.le_trans (hx1 x hx) (by decide))
  have hp1' := hp1.below ((Below.refl w4.heap.size w4).alloc (Nat.le_refl _) (.cells #[.int .i64 0, .int .i64 0, .int .i64 0, .int .i64 0, .string ⟨#[48]⟩] 57 (0, 0)))
  have hn := heap_alloc_new w4 (.cells #[.int .i64 0, .int .i64 0, .int .i64 0, .int .i64 0, .string ⟨#[48]⟩] 57 (0, 0))
  have hpn : ProgIn (w4.alloc (.cells #[.int .i64 0, .int .i64 0, .int .i64 0, .int .i64 0, .string ⟨#[48]⟩] 57 (0, 0))) (some ⟨w4.heap.size, 0, none⟩) w4.heap.size 0 [setNil] := by
    refine ⟨fun _ => rfl, fun i hi => ?_, fun _ => by simp, fun x hx => ?_⟩
    · have : i = 0 := by simpa using hi
      subst this
      exact ⟨cell_of_block hn 0, cell_of_block hn 1, cell_of_block hn 2, cell_of_block hn 3, cell_of_block hn 4⟩
    · simp only [List.mem_singleton] at hx; subst hx; decide
  have ks := fun cap' => same_c a1 (some ⟨w4.heap.size, 0, none⟩) b1 0 w4.heap.size 0 c1 cap' [setNil] [setNil] _ hp1' hpn (by decide) (by decide)
  rw [(sameP_iff [setNil] [setNil]).2 rfl] at ks
  have Ks := Lib.hid ks
  have hbel := hb13.trans (hb4.mono hB3)
  have hB4 := hbel.size
  have Hbel := Lib.hid (hbel.alloc hB4 (.cells #[.int .i64 0, .int .i64 0, .int .i64 0, .int .i64 0, .string ⟨#[48]⟩] 57 (0, 0)))
  have hl2 : (2 : Int) ≤ ((([] :: [setNil] :: r : List (List Ins)).length : Nat) : Int) := by simp; omega
  generalize ([] :: [setNil] :: r : List (List Ins)).length = N at *
  clear ks hb4 hbel hvs hown1 hx1 hp1 hp1' hn hpn hb13 K1 K2 K3 K4
  go_wp2_with fail
  refine (Ks.out _).mono ?_
  rintro e w5 ⟨rfl, n, rfl⟩
  go_wp2_with fail
  go_ret
  exact ⟨rfl, below_drewN Hbel.out _⟩

end Go.Proofs.Ythmnbciefpkpmaa
