/- The walks of least and Next of the tenth reference. -/
import Derived.Test.YthmnbciefpkpmaaRef10
import Derived.BigQuiet
namespace Go.Proofs.Ythmnbciefpkpmaa
open Go.RowKit

def zerosL (n : Nat) : List UInt8 := List.replicate n 48

theorem zerosL_succ (n : Nat) : zerosL (n + 1) = zerosL n ++ [48] := by unfold zerosL; rw [List.replicate_succ']
theorem zerosL_len (n : Nat) : (zerosL n).length = n := by unfold zerosL; simp
theorem leastL_eq (k n : Nat) : leastL k (n + 1) = zerosL n ++ pairsL k ++ [48] := by
  unfold leastL zerosL pairsL; simp

def LeastPost (w : World) (l : List UInt8) (e : Ending) (w' : World) : Prop := (∃ ao cap, e = .returned (.slice ao l.length cap) ∧ BytesAt 5 w' w.heap.size ao cap l) ∧ Below w.heap.size w w'

set_option maxRecDepth 100000 in
set_option maxHeartbeats 1000000 in
theorem least10_c (n k : Nat) (w : World) (hn : n ≤ 3000000) (hk : k ≤ 3000000) :
    Calls Try.prog 93 #[.int .i64 ((n : Int) + 1), .int .i64 k] w (LeastPost w (leastL k (n + 1))) := by
  obtain ⟨i1, hj, hy0, hy1, hy2⟩ := info_parts Try.info5
  have hni : (n : Int) ≤ 3000000 := by omega
  have hki : (k : Int) ≤ 3000000 := by omega
  have hn0 : (0 : Int) ≤ n := by omega
  have hk0 : (0 : Int) ≤ k := by omega
  rw [leastL_eq]
  go_enter Try.func93, Try.ntmps93
  go_wp2_with (at_make; refine wpList_make_own _ rfl _ _ 112 rfl w.heap.size 5 i1 _ 1 Try.underlying112 hj hy0 hy1 .i64 .i64 _ (n + 1 + 2 * k) rfl rfl (by omega) (by rw [hy2]; omega) (by unfold maxLen; omega) (Nat.le_refl _) ?_)
  intro w1 hown hgrow
  have hbel1 := (Below.refl w.heap.size w).grown hgrow (Nat.le_refl _) (by simp)
  have hbyS : BytesAt 5 w1 w.heap.size (some ⟨w.heap.size, 0, none⟩) (n + 1 + 2 * k) (zerosL 0) := hown
  have hB1 := hbel1.size
  clear hown hgrow
  go_wp2_with fail
  go_loopw [5, 6] (fun o i wr => ∃ (j : Nat) (ao : Option Addr) (cap : Nat), j ≤ n ∧ i = .int .i64 ((j : Int) + 1) ∧ o = .slice ao (zerosL j).length cap ∧ BytesAt 5 wr w.heap.size ao cap (zerosL j) ∧ Below w.heap.size w wr ∧ w.heap.size ≤ wr.heap.size) (fun _ i _ => n + 1 - (intOf i).toNat)
  case atStart => exact ⟨0, _, _, Nat.zero_le _, rfl, rfl, hbyS, hbel1, hB1⟩
  case round =>
    obtain ⟨j, ao, cap, hjn, rfl, rfl, hby, hbel, hBw⟩ := hrel
    clear hbel1 hB1 hbyS
    have hlen := zerosL_len j
    have hsucc := zerosL_succ j
    by_cases hlt : (j : Int) < (n : Int)
    · unfold BytesAt at hby
      have hlb : (zerosL j).length ≤ 3000000 := by omega
      have hs2 : (zerosL (j + 1)).length = (zerosL j).length + 1 := by rw [hsucc]; simp
      generalize hP : zerosL j = P at *
      have HS := Lib.hid (And.intro hsucc hs2)
      clear hlen hsucc hs2 hP
      go_wp2_with (at_builtin; refine wpList_append_lies _ rfl _ _ 112 rfl w.heap.size 5 i1 _ 1 1 Try.underlying112 hj hy0 hy1 hy2 rfl (by decide) (.slice ao P.length cap) P.length (Lib.byteCells P) rfl (hby.alloc _) ⟨wr.heap.size, 0, none⟩ 1 1 [.int .u8 48] rfl rfl (news1 (heap_alloc_new _ _)) (by simp; rfl) (by decide) (by unfold maxLen; omega) (by omega) (by simp; omega) (wr.heap.size + 1) (by simp) ?_)
      intro g2 cap2 w2 hown2 hgrow hat hlt2
      have hbel2 := (hbel.alloc hBw (.cells #[.int .u8 48] 5 (0, 0))).grown hgrow (by simp; omega) (fun k hk => (World.ownsRow.lt hby k hk).1)
      have hby2 : BytesAt 5 w2 w.heap.size (some ⟨g2, 0, none⟩) cap2 (P ++ [48]) := BytesAt.push rfl hown2
      have hB2 := hbel2.size
      clear hown2 hgrow hat hlt2 hby hbel
      go_wp2_with fail
      go_roundw
      case rel => exact ⟨j + 1, some ⟨g2, 0, none⟩, cap2, by omega, by go_num, by rw [HS.out.2], by rw [HS.out.1]; exact hby2, hbel2, hB2⟩
      case measure => simp [intOf] <;> omega
    · obtain rfl : j = n := by omega
      have hby0 : BytesAt 5 wr w.heap.size ao cap (zerosL j ++ pairsL 0) := by simpa [pairsL] using hby
      have hl0 : (zerosL j).length = (zerosL j ++ pairsL 0).length := by simp [pairsL]
      rw [hl0]
      clear hby hl0 hsucc hlt
      go_wp2_with fail
      go_loopw [5, 7] (fun o i wr2 => ∃ (m : Nat) (ao : Option Addr) (cap : Nat), m ≤ k ∧ i = .int .i64 m ∧ o = .slice ao (zerosL j ++ pairsL m).length cap ∧ BytesAt 5 wr2 w.heap.size ao cap (zerosL j ++ pairsL m) ∧ Below w.heap.size w wr2 ∧ w.heap.size ≤ wr2.heap.size) (fun _ i _ => k - (intOf i).toNat)
      case atStart => exact ⟨0, _, _, Nat.zero_le _, rfl, rfl, hby0, hbel, hBw⟩
      case round =>
        obtain ⟨m, ao, cap, hmk, rfl, rfl, hby, hbel, hBw⟩ := hrel
        have hlen2 : (zerosL j ++ pairsL m).length = j + 2 * m := by rw [List.length_append, zerosL_len, pairsL_len]
        have hsucc : zerosL j ++ pairsL (m + 1) = (zerosL j ++ pairsL m) ++ [49, 48] := by rw [pairsL_succ, List.append_assoc]
        by_cases hlt : (m : Int) < (k : Int)
        · unfold BytesAt at hby
          have hlb : (zerosL j ++ pairsL m).length ≤ 9000000 := by omega
          have hs2 : (zerosL j ++ pairsL (m + 1)).length = (zerosL j ++ pairsL m).length + 2 := by rw [hsucc, List.length_append]; rfl
          generalize hP : zerosL j ++ pairsL m = P at *
          have HS := Lib.hid (And.intro hsucc hs2)
          clear hlen2 hsucc hs2 hP
          go_wp2_with (at_builtin; refine wpList_append_lies _ rfl _ _ 112 rfl w.heap.size 5 i1 _ 1 1 Try.underlying112 hj hy0 hy1 hy2 rfl (by decide) (.slice ao P.length cap) P.length (Lib.byteCells P) rfl (hby.alloc _) ⟨wr.heap.size, 0, none⟩ 2 2 [.int .u8 49, .int .u8 48] rfl rfl (news2 (heap_alloc_new _ _)) (by simp; exact ⟨rfl, rfl⟩) (by decide) (by unfold maxLen; omega) (by omega) (by simp; omega) (wr.heap.size + 1) (by simp) ?_)
          intro g2 cap2 w2 hown2 hgrow hat hlt2
          have hbel2 := (hbel.alloc hBw (.cells #[.int .u8 49, .int .u8 48] 5 (0, 0))).grown hgrow (by simp; omega) (fun k hk => (World.ownsRow.lt hby k hk).1)
          have hby2 : BytesAt 5 w2 w.heap.size (some ⟨g2, 0, none⟩) cap2 (P ++ [49, 48]) := BytesAt.push2' rfl hown2
          have hB2 := hbel2.size
          clear hown2 hgrow hat hlt2 hby hbel
          go_wp2_with fail
          go_roundw
          case rel => exact ⟨m + 1, some ⟨g2, 0, none⟩, cap2, by omega, by go_num, by rw [HS.out.2], by rw [HS.out.1]; exact hby2, hbel2, hB2⟩
          case measure => simp [intOf] <;> omega
        · obtain rfl : m = k := by omega
          unfold BytesAt at hby
          have hlb : (zerosL j ++ pairsL m).length ≤ 9000000 := by omega
          generalize zerosL j ++ pairsL m = P at *
          clear hlen2 hsucc hlt hmk hby0
          go_wp2_with (at_builtin; refine wpList_append_lies _ rfl _ _ 112 rfl w.heap.size 5 i1 _ 1 1 Try.underlying112 hj hy0 hy1 hy2 rfl (by decide) (.slice ao P.length cap) P.length (Lib.byteCells P) rfl (hby.alloc _) ⟨wr.heap.size, 0, none⟩ 1 1 [.int .u8 48] rfl rfl (news1 (heap_alloc_new _ _)) (by simp; rfl) (by decide) (by unfold maxLen; omega) (by omega) (by simp; omega) (wr.heap.size + 1) (by simp) ?_)
          intro g2 cap2 w2 hown2 hgrow hat hlt2
          have hbel2 := (hbel.alloc hBw (.cells #[.int .u8 48] 5 (0, 0))).grown hgrow (by simp; omega) (fun k hk => (World.ownsRow.lt hby k hk).1)
          have hby2 : BytesAt 5 w2 w.heap.size (some ⟨g2, 0, none⟩) cap2 (P ++ [48]) := BytesAt.push rfl hown2
          have HH := Lib.hid (And.intro hby2 hbel2)
          clear hown2 hgrow hat hlt2 hby hbel hby2 hbel2
          go_wp2_with fail
          go_ret
          exact ⟨⟨some ⟨g2, 0, none⟩, cap2, by rw [List.length_append]; rfl, HH.out.1⟩, HH.out.2⟩

theorem app3 (s U : ByteArray) (i : Nat) (N L : List UInt8) (hU : U.data.toList = L) (hN : N = s.data.toList.take i ++ 49 :: L) : s.extract 0 i ++ ⟨#[49]⟩ ++ U = strB N := by
  have h := ba_eq (x := s.extract 0 i ++ ⟨#[49]⟩ ++ U) (l := N) (by
    rw [hN]
    simp only [ByteArray.data_append, Array.toList_append, hU, Lib.extract_data, List.append_assoc]
    simp)
  exact h

set_option maxRecDepth 100000 in
set_option maxHeartbeats 1000000 in
theorem next10_c (s : ByteArray) (w : World) (h : validB s = true) :
    Calls Try.prog 29 #[.string s] w fun e w' => e = .returned (.string (strB (nxt s.data.toList s.size 0 0))) ∧ Below w.heap.size w w' := by
  obtain ⟨hwd, hsz⟩ := validB_word h
  have hmax : s.size ≤ 2000000 := by
    simp only [validB, Bool.and_eq_true, decide_eq_true_eq] at h; exact h.1
  generalize hK : s.size / 2 = K at *
  have hpos : 1 ≤ s.size := by omega
  have hKle : K ≤ 1000000 := by omega
  have hlen : s.data.toList.length = s.size := by simp
  generalize hN : nxt s.data.toList s.size 0 0 = N
  have HN := Lib.hid hN
  have Hsz := Lib.hid (And.intro hsz (And.intro hK hwd))
  have Hlen := Lib.hid hlen
  clear hN hsz h hK hwd hlen
  go_enter Try.func29, Try.ntmps29
  go_wp2_with fail
  go_loopw [3, 4, 5] (fun o1 p1 i1 wr => ∃ (i p o : Nat), i1 = .int .i64 ((i : Int) - 1) ∧ p1 = .int .i64 p ∧ o1 = .int .i64 o ∧ i ≤ s.size ∧ Word (s.data.toList.drop i) p o ∧ N = nxt s.data.toList i p o ∧ wr = w) (fun _ _ i1 _ => (intOf i1 + 1).toNat)
  case atStart => exact ⟨s.size, 0, 0, rfl, rfl, rfl, Nat.le_refl _, by rw [List.drop_of_length_le (by rw [Hlen.out]; omega)]; exact .done, HN.out.symm, rfl⟩
  case round =>
    obtain ⟨i, p, o, rfl, rfl, rfl, hi, hw, hn, rfl⟩ := hrel
    cases i with
    | zero =>
      have hle := Hlen.out
      rw [List.drop_zero] at hw
      obtain ⟨hp, ho⟩ := hw.same Hsz.out.2.2
      subst hp ho
      simp only [nxt] at hn
      have e2 : s.data.toList.length / 2 + 1 = K + 1 := by have := Hsz.out.2.2.len; omega
      rw [e2] at hn
      have hcall : ∀ w, Calls Try.prog 93 #[.int .i64 1, .int .i64 ((K : Int) + 1)] w (LeastPost w N) := fun w => by rw [hn]; exact least10_c 0 (K + 1) w (by omega) (by omega)
      have hne : N ≠ [] := by rw [hn]; unfold leastL; simp
      have Hcall := Lib.hid hcall
      have hpi : (K : Int) ≤ 1000000 := by omega
      clear hcall hn hle e2 HN hw
      go_wp2_with fail
      refine (Hcall.out _).mono ?_
      rintro e w3 ⟨⟨ao, cap, rfl, hby⟩, hb3⟩
      have hconv := run_back (P := Try.prog) hby 112 9 Try.underlying112 Try.underlying5 Try.underlying9 hne
      clear hby
      go_wp2_with fail
      go_ret
      exact ⟨rfl, hb3⟩
    | succ i =>
      have hi2 : i < s.size := by omega
      have hwl := hw.len
      simp only [List.length_drop] at hwl
      rw [Hlen.out] at hwl
      have hpo : 2 * p + o ≤ 2000000 := by omega
      have i1 : (0 : Int) ≤ (i : Int) := by omega
      have i2 : (i : Int) < (s.size : Int) := by omega
      clear hwl
      simp only [nxt, getD_byte s i hi2] at hn
      rcases Word.back hi2 Hsz.out.2.2 hw with ⟨hc, ho, hw2⟩ | ⟨hc, hc0, hw2⟩
      · rw [if_pos (byte_eq _ 49 hc)] at hn
        have Hst := Lib.hid (And.intro hn hw2)
        have hcb : (((s[i]'hi2).toNat : Int) == 49) = true := by simp [hc]
        clear hn hw hw2 hc
        go_wp2_with fail
        go_roundw
        case rel => exact ⟨i, p + 1, o - 1, by go_num, by go_num, by go_num, by omega, Hst.out.2, Hst.out.1, by simp⟩
        case measure => simp [intOf] <;> omega
      · rw [if_neg (fun e => hc (by rw [e]; rfl))] at hn
        have hcb : (((s[i]'hi2).toNat : Int) == 49) = false := by simpa using hc
        cases p with
        | zero =>
          rw [if_neg (Nat.lt_irrefl 0)] at hn
          have Hst := Lib.hid (And.intro hn hw2)
          clear hn hw hw2 hc hc0
          go_wp2_with fail
          go_roundw
          case rel => exact ⟨i, 0, o + 1, by go_num, rfl, by go_num, by omega, Hst.out.2, Hst.out.1, by simp⟩
          case measure => simp [intOf] <;> omega
        | succ p =>
          rw [if_pos (Nat.succ_pos p), Nat.add_sub_cancel] at hn
          have hcall : ∀ w, Calls Try.prog 93 #[.int .i64 ((o : Int) + 1 + 1), .int .i64 p] w (LeastPost w (leastL p (o + 2))) := fun w => least10_c (o + 1) p w (by omega) (by omega)
          have hne : leastL p (o + 2) ≠ [] := by unfold leastL; simp
          have hlz : (leastL p (o + 2)).length ≤ 4000010 := by rw [leastL_len _ _ (by omega)]; omega
          have hfin : s.extract 0 i ++ ⟨#[49]⟩ ++ strB (leastL p (o + 2)) = strB N := app3 s (strB (leastL p (o + 2))) i N (leastL p (o + 2)) rfl hn
          have hexz : (s.extract 0 i).size = i := by simp; omega
          generalize hL : leastL p (o + 2) = L at *
          have hUz : (strB L).size = L.length := strB_size L
          have Hcall := Lib.hid hcall
          have Hfin := Lib.hid hfin
          have hile : i ≤ s.size := by omega
          have hr1 : IntKind.i64.wrap ((p : Int) + 1 - 1) = p := by rw [show (p : Int) + 1 - 1 = p by omega]; exact IntWalk.i64_in _ (by omega)
          have hr2 : IntKind.i64.wrap ((o : Int) + 1 + 1) = (o : Int) + 1 + 1 := IntWalk.i64_in _ (by omega)
          have hr3 : IntKind.i64.wrap (p : Int) = p := IntWalk.i64_in _ (by omega)
          have hs1 : (9223372036854775807 < i + 1) = False := by simp; omega
          have hs2 : (9223372036854775807 < i + 1 + L.length) = False := by simp; omega
          clear hcall hn hw hw2 hc hc0 HN hfin hL
          go_wp2_with fail
          go_region_law (first | (go_simp; go_at_call 93; refine (Hcall.out _).mono ?_; rintro e w3 ⟨⟨ao, cap, rfl, hby⟩, hb3⟩; have hconv := run_back (P := Try.prog) hby 112 9 Try.underlying112 Try.underlying5 Try.underlying9 hne))
          all_goals (
            go_wp2_with fail
            go_ret
            exact ⟨by rw [← Hfin.out]; rfl, (Below.refl _ _).drew.trans hb3⟩)

end Go.Proofs.Ythmnbciefpkpmaa
