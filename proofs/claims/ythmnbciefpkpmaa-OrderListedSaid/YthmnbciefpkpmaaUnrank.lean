/- The walk of order.Unrank. -/
import Derived.Test.YthmnbciefpkpmaaRank
import Derived.Test.YthmnbciefpkpmaaBuilder
import Derived.Test.YthmnbciefpkpmaaShelf
namespace Go.Proofs.Ythmnbciefpkpmaa
open Go.RowKit

/-- what Unrank returns -/
def unrankV (n : Int) : Value := if n < 0 then .tuple #[.string ⟨#[]⟩, .int .i64 2] else match unrankL n.toNat with
  | some l => .tuple #[.string ⟨l.toArray⟩, .int .i64 0]
  | none => .tuple #[.string ⟨#[]⟩, .int .i64 2]

theorem TabAt.below {w w' : World} {b B : Nat} {f : Nat → Nat → Nat} (h : TabAt w b f) (hb : Below B w w') (hlt : b < B) : TabAt w' b f := by
  obtain ⟨cs, hc, hs, hx⟩ := h
  exact ⟨cs, by rw [hb.block b hlt]; exact hc, hs, hx⟩

theorem seek_stop {k m : Nat} (h : k = 31 ∨ m < ways k 1) : seek (31 - k) k m = (k, m) := by
  rcases h with rfl | h
  · rfl
  · cases hf : 31 - k with
    | zero => rfl
    | succ f => rw [seek, if_pos h]

theorem seek_go {k m : Nat} (hk : k ≤ 30) (h : ways k 1 ≤ m) : seek (31 - k) k m = seek (31 - (k + 1)) (k + 1) (m - ways k 1) := by
  obtain ⟨f, hf⟩ : ∃ f, 31 - k = f + 1 := ⟨30 - k, by omega⟩
  rw [hf, seek, if_neg (by omega)]
  congr 1
  omega

set_option maxRecDepth 100000 in
set_option maxHeartbeats 1000000 in
theorem unrank_c (n : Int) (w : World) (hn : n ≤ 9223372036854775807) :
    Calls Try.prog 33 #[.int .i64 n] w fun e w' => e = .returned (unrankV n) ∧ Below w.heap.size w w' := by
  unfold unrankV
  by_cases h0 : n < 0
  · rw [if_pos h0]
    go_enter Try.func33, Try.ntmps33
    go_wp2_with fail
    go_ret2
    exact ⟨rfl, Below.refl _ _⟩
  · rw [if_neg h0]
    obtain ⟨N, rfl⟩ : ∃ N : Nat, n = (N : Int) := ⟨n.toNat, by omega⟩
    simp only [Int.toNat_natCast]
    generalize hV : (match unrankL N with | some l => Value.tuple #[.string ⟨l.toArray⟩, .int .i64 0] | none => Value.tuple #[.string ⟨#[]⟩, .int .i64 2]) = V
    have HV := Lib.hid hV
    clear hV h0
    go_enter Try.func33, Try.ntmps33
    go_wp2_with fail
    refine (counted_c _).mono ?_
    rintro e w2 ⟨b, rfl, hbb, ht, hb2⟩
    go_wp2_with fail
    go_loopw [0, 5] (fun n1 k1 wr => ∃ (m k : Nat), n1 = .int .i64 m ∧ k1 = .int .i64 k ∧ wr = w2 ∧ k ≤ 31 ∧ m ≤ N ∧ seek 31 0 N = seek (31 - k) k m) (fun _ i _ => 31 - (intOf i).toNat)
    case atStart => exact ⟨N, 0, rfl, rfl, rfl, by omega, Nat.le_refl _, rfl⟩
    case round =>
      obtain ⟨m, k, rfl, rfl, rfl, hk, hm, hse⟩ := hrel
      by_cases hk30 : (k : Int) ≤ 30
      · have c1 := ht.cell k 1 (by omega) (by omega)
        rw [tv_full (by omega) (by omega)] at c1
        have hwl := ways_lim (k := k) (o := 1) (by omega) (by omega)
        by_cases hge : ((ways k 1 : Nat) : Int) ≤ (m : Int)
        · rw [seek_go (by omega) (by omega)] at hse
          generalize ways k 1 = W at *
          have Hse := Lib.hid hse
          clear hse
          go_wp2_with fail
          go_roundw
          case rel => exact ⟨m - W, k + 1, by go_num, by go_num, by simp, by omega, by omega, Hse.out⟩
          case measure => simp [intOf] <;> omega
        · have hlt : (m : Int) < ((ways k 1 : Nat) : Int) := by omega
          rw [seek_stop (Or.inr (by omega))] at hse
          have hlt3 : m < ways k 1 := by omega
          generalize hWW : ways k 1 = W at *
          have hV2 : V = .tuple #[.string ⟨(unr k 1 m).toArray⟩, .int .i64 0] := by
            rw [← HV.out]; simp only [unrankL, hse]; rw [if_pos (by omega)]
          have HV2 := Lib.hid hV2
          rw [← hWW] at hlt3
          have hword := unr_word k 1 m hlt3
          have Hlt := Lib.hid hlt3
          have Hlen := Lib.hid hword.1.len
          clear hse hlt3 hge hWW hV2 HV hword
          have hbsz : b < wr.heap.size := by obtain ⟨cs, hbc, _⟩ := ht; exact (Array.getElem?_eq_some_iff.1 hbc).1
          have hbsz2 := hb2.size
          generalize hL : unr k 1 m = L at *
          have HL := Lib.hid hL
          clear hL
          have hdec : decide (W ≤ m) = false := by simp; omega
          have hdeci : decide ((W : Int) ≤ (m : Int)) = false := by simp; omega
          clear hlt
          go_wp2_with fail
          have hbel : Below w.heap.size w (wr.alloc (.cells #[.pointer none, .slice none 0 0] 120 (0, 0))) := hb2.alloc hbsz2 _
          have hbd : Lib.IsBuilder 120 5 wr.heap.size wr.heap.size (Lib.byteCells []) (wr.alloc (.cells #[.pointer none, .slice none 0 0] 120 (0, 0))) := Lib.fresh_isBuilder _ _ wr
          have ht0 := TabAt.keep ht (KeepTy.alloc _ wr (.cells #[.pointer none, .slice none 0 0] 120 (0, 0)))
          have hsz0 : wr.heap.size + 1 ≤ (wr.alloc (.cells #[.pointer none, .slice none 0 0] 120 (0, 0))).heap.size := by simp
          generalize wr.alloc (.cells #[.pointer none, .slice none 0 0] 120 (0, 0)) = w0 at *
          generalize hBB : wr.heap.size = B at *
          clear hBB
          clear hdec hdeci
          go_loopw [0, 5, 7] (fun n1 k1 o1 wr2 => ∃ (m1 k2 o2 : Nat) (l : List UInt8), n1 = .int .i64 m1 ∧ k1 = .int .i64 k2 ∧ o1 = .int .i64 o2 ∧ m1 ≤ m ∧ k2 + o2 ≤ 31 ∧ k2 ≤ 30 ∧ l.length + k2 + k2 + o2 ≤ 61 ∧ m1 < ways k2 o2 ∧ L = l ++ unr k2 o2 m1 ∧ Lib.IsBuilder 120 5 B B (Lib.byteCells l) wr2 ∧ Below w.heap.size w wr2 ∧ B + 1 ≤ wr2.heap.size ∧ TabAt wr2 b (tv 31 1)) (fun _ k1 o1 _ => 2 * (intOf k1).toNat + (intOf o1).toNat)
          case atStart => exact ⟨m, k, 1, [], rfl, rfl, rfl, Nat.le_refl _, by omega, by omega, by simp; omega, Hlt.out, HL.out.symm, hbd, hbel, hsz0, ht0⟩
          case round =>
            obtain ⟨m1, k2, o2, l, rfl, rfl, rfl, hm1, hko, hk2, hl, hlt4, hLL, hbd2, hbel2, hsz2, ht2⟩ := hrel
            clear hbel hsz0 ht0 hbd hb2
            have hbsz4 := hbel2.size
            cases o2 with
            | zero =>
              have hk0 : k2 = 0 := by
                cases k2 with
                | zero => rfl
                | succ k => rw [ways_k0] at hlt4; omega
              subst hk0
              have hLl : L = l := by rw [hLL]; simp [unr]
              subst hLl
              clear hLL hlt4
              have Hbel2 := Lib.hid hbel2
              have hc := Try.Builder_String_any B B L _ hbd2 (by omega)
              have Hc := Lib.hid hc
              clear hc hbd2 hbel2
              go_wp2_with (go_at_call 98; refine Hc.out.mono ?_; rintro e w5 ⟨rfl, hb5⟩)
              go_ret2
              exact ⟨by rw [HV2.out]; rfl, Hbel2.out.trans (hb5.mono hbsz2)⟩
            | succ o =>
              have c1 := ht2.cell k2 o (by omega) (by omega)
              rw [tv_full (by omega) (by omega)] at c1
              by_cases hz : m1 < ways k2 o
              · rw [unr_lt hz] at hLL
                have hzi : (m1 : Int) < ((ways k2 o : Nat) : Int) := by omega
                have hzw : ((ways k2 o : Nat) : Int) ≤ 2305843009213693952 := by have := ways_lim (k := k2) (o := o) (by omega) (by omega); omega
                have Hst := Lib.hid (And.intro hLL hz)
                have Hko := Lib.hid hl
                have hwr := writeByte_c B B (Lib.byteCells l) 48 _ hbd2 (by rw [Lib.byteCells_length]; omega) (by omega)
                have Hwr := Lib.hid hwr
                generalize ways k2 o = W at c1 hzi hzw
                clear hLL hlt4 hz hwr hbd2
                go_wp2_with (go_at_call 97; refine Hwr.out.mono ?_; rintro e w5 ⟨rfl, hbd5, hb5⟩)
                go_roundw
                case rel => exact ⟨m1, k2, o, l ++ [48], rfl, rfl, by go_num, hm1, by omega, hk2, by have := Hko.out; simp; omega, Hst.out.2, by rw [Hst.out.1]; simp, by rw [show Lib.byteCells (l ++ [48]) = Lib.byteCells l ++ [.int .u8 48] by simp [Lib.byteCells]]; exact Or.inr hbd5, hbel2.trans (hb5.mono hbsz2), by have := hb5.size; omega, ht2.below hb5 hbsz⟩
                case measure => simp [intOf] <;> omega
              · obtain ⟨k3, rfl⟩ : ∃ k3, k2 = k3 + 1 := by
                  cases k2 with
                  | zero => rw [ways_zero] at hlt4 hz; omega
                  | succ k3 => exact ⟨k3, rfl⟩
                rw [unr_ge (by omega)] at hLL
                rw [ways_ko] at hlt4
                have hzi : ((ways (k3 + 1) o : Nat) : Int) ≤ (m1 : Int) := by omega
                have hlt5 : m1 - ways (k3 + 1) o < ways k3 (o + 2) := by omega
                have Hst := Lib.hid (And.intro hLL hlt5)
                have Hko := Lib.hid hl
                have hwr := writeByte_c B B (Lib.byteCells l) 49 _ hbd2 (by rw [Lib.byteCells_length]; omega) (by omega)
                have Hwr := Lib.hid hwr
                generalize ways (k3 + 1) o = W at *
                clear hLL hlt4 hlt5 hz hwr hbd2
                go_wp2_with (go_at_call 97; refine Hwr.out.mono ?_; rintro e w5 ⟨rfl, hbd5, hb5⟩)
                go_roundw
                case rel => exact ⟨m1 - W, k3, o + 2, l ++ [49], by go_num, by go_num, by go_num, by omega, by omega, by omega, by have := Hko.out; simp; omega, Hst.out.2, by rw [Hst.out.1]; simp, by rw [show Lib.byteCells (l ++ [49]) = Lib.byteCells l ++ [.int .u8 49] by simp [Lib.byteCells]]; exact Or.inr hbd5, hbel2.trans (hb5.mono hbsz2), by have := hb5.size; omega, ht2.below hb5 hbsz⟩
                case measure => simp [intOf] <;> omega
      · obtain rfl : k = 31 := by omega
        rw [seek_stop (Or.inl rfl)] at hse
        have HV2 := Lib.hid (show V = .tuple #[.string ⟨#[]⟩, .int .i64 2] by
          rw [← HV.out]; simp [unrankL, hse])
        clear hse HV
        go_wp2_with fail
        go_ret2
        exact ⟨by rw [HV2.out]; rfl, hb2⟩

end Go.Proofs.Ythmnbciefpkpmaa
