/- The walks of End, Valid, Pairs and Number of the first reference, and of Pairs of the tenth. -/
import Derived.Test.YthmnbciefpkpmaaListing
namespace Go.Proofs.Ythmnbciefpkpmaa
open Go.RowKit

/-- what End returns -/
def end1V (r : Option Nat) (from_ : Int) : Int := match r with
  | some n => from_ + n
  | none => -1

set_option maxRecDepth 100000 in
theorem end1_c (s : ByteArray) (n : Nat) (w : World) (hs : s.size ≤ 140737488351232) (hn : n ≤ s.size) :
    Calls Try.prog 91 #[.string s, .int .i64 n] w fun e w' => e = .returned (.int .i64 (end1V (scan (s.data.toList.drop n) 1) n)) ∧ w = w' := by
  generalize hV : end1V (scan (s.data.toList.drop n) 1) n = V
  have HV := Lib.hid hV
  clear hV
  go_enter Try.func91, Try.ntmps91
  go_wp2_with fail
  go_loop [1, 5] (fun at1 op => ∃ (pos o : Nat), at1 = .int .i64 pos ∧ op = .int .i64 o ∧ n ≤ pos ∧ pos ≤ s.size ∧ o ≤ pos + 1 ∧ V = end1V (scan (s.data.toList.drop pos) o) pos) (fun at1 _ => s.size - (intOf at1).toNat)
  case atStart => exact ⟨n, 1, rfl, rfl, Nat.le_refl _, hn, by omega, HV.out.symm⟩
  case round =>
    obtain ⟨pos, o, rfl, rfl, hnp, hps, hop, hsc⟩ := hrel
    have Hsc := Lib.hid hsc
    clear hsc
    cases o with
    | zero =>
      have hV2 : V = (pos : Int) := by rw [Hsc.out, scan_zero]; simp [end1V]
      have HV2 := Lib.hid hV2
      clear hV2
      go_wp2_with fail
      go_ret
      exact ⟨by rw [HV2.out]; rfl, rfl⟩
    | succ o =>
      have ho : (0 : Int) < ((o + 1 : Nat) : Int) := by omega
      by_cases hp : pos < s.size
      · have i1 : (pos : Int) < (s.size : Int) := by omega
        by_cases h48 : ((s[pos]'hp).toNat : Int) = 48
        · have hs1 := Hsc.out
          rw [scan_cons0 hp h48] at hs1
          have hs2 : V = end1V (scan (s.data.toList.drop (pos + 1)) o) ((pos + 1 : Nat) : Int) := by
            rw [hs1]
            cases scan (s.data.toList.drop (pos + 1)) o with
            | none => rfl
            | some m => simp [end1V]; omega
          have Hs2 := Lib.hid hs2
          clear hs1 hs2 Hsc
          have e1 : (((s[pos]'hp).toNat : Int) != 48) = false := by simp [h48]
          have e2 : (((s[pos]'hp).toNat : Int) == 49) = false := by rw [h48]; rfl
          have ho2 : (o : Int) ≤ (pos : Int) := by omega
          clear h48
          go_wp2_with fail
          go_round
          case rel => exact ⟨pos + 1, o, by go_num, by go_num, by omega, by omega, by omega, Hs2.out⟩
          case measure => simp [intOf]; omega
        · have e1 : (((s[pos]'hp).toNat : Int) != 48) = true := by simpa using h48
          by_cases h49 : ((s[pos]'hp).toNat : Int) = 49
          · have hs1 := Hsc.out
            rw [scan_cons1 hp h49] at hs1
            have hs2 : V = end1V (scan (s.data.toList.drop (pos + 1)) (o + 2)) ((pos + 1 : Nat) : Int) := by
              rw [hs1]
              cases scan (s.data.toList.drop (pos + 1)) (o + 2) with
              | none => rfl
              | some m => simp [end1V]; omega
            have Hs2 := Lib.hid hs2
            clear hs1 hs2 Hsc
            have e2 : (((s[pos]'hp).toNat : Int) == 49) = true := by simp [h49]
            have e3 : (((s[pos]'hp).toNat : Int) != 49) = false := by simp [h49]
            have ho2 : (o : Int) ≤ (pos : Int) := by omega
            clear h48 h49
            go_wp2_with fail
            go_round
            case rel => exact ⟨pos + 1, o + 2, by go_num, by go_num, by omega, by omega, by omega, Hs2.out⟩
            case measure => simp [intOf]; omega
          · have e3 : (((s[pos]'hp).toNat : Int) != 49) = true := by simpa using h49
            have hV2 : V = -1 := by rw [Hsc.out, scan_bad hp h48 h49]; rfl
            have HV2 := Lib.hid hV2
            clear hV2 Hsc h48 h49
            go_wp2_with fail
            go_ret
            exact ⟨by rw [HV2.out]; rfl, rfl⟩
      · have i1 : (s.size : Int) ≤ (pos : Int) := by omega
        have hV2 : V = -1 := by rw [Hsc.out, scan_out hp]; rfl
        have HV2 := Lib.hid hV2
        clear hV2 Hsc
        go_wp2_with fail
        go_ret
        exact ⟨by rw [HV2.out]; rfl, rfl⟩

set_option maxRecDepth 100000 in
theorem valid1_c (s : ByteArray) (w : World) (hs : s.size ≤ 140737488351232) :
    Calls Try.prog 26 #[.string s] w fun e w' => e = .returned (.bool (validB s)) ∧ w = w' := by
  unfold validB
  by_cases h : (s.size : Int) ≤ 2000000
  · rw [decide_eq_true (show s.size ≤ 2000000 by omega), Bool.true_and]
    have hc := fun w => end1_c s 0 w hs (Nat.zero_le _)
    simp only [List.drop_zero] at hc
    have he : ((end1V (scan s.data.toList 1) (0 : Nat) == (s.size : Int)) = decide (scan s.data.toList 1 = some s.size)) := by
      rw [Bool.eq_iff_iff, beq_iff_eq, decide_eq_true_eq]
      cases scan s.data.toList 1 with
      | none => simp only [end1V]; constructor <;> intro h <;> first | omega | cases h
      | some m => simp only [end1V, Option.some.injEq]; omega
    generalize end1V (scan s.data.toList 1) (0 : Nat) = V at *
    generalize decide (scan s.data.toList 1 = some s.size) = D at *
    have Hc := Lib.hid hc
    clear hc
    go_enter Try.func26, Try.ntmps26
    go_wp2_with (go_at_call 91; refine (Hc.out _).mono ?_; rintro e w' ⟨rfl, rfl⟩)
    go_ret
    exact ⟨rfl, rfl⟩
  · rw [decide_eq_false (show ¬ s.size ≤ 2000000 by omega), Bool.false_and]
    go_enter Try.func26, Try.ntmps26
    go_wp2_with fail
    go_ret
    exact ⟨rfl, rfl⟩

theorem ones_take (s : ByteArray) (k : Nat) (h : k < s.size) : ones (s.data.toList.take (k + 1)) = ones (s.data.toList.take k) + (if ((s[k]'h).toNat : Int) = 49 then 1 else 0) := by
  have e : s.data.toList.take (k + 1) = s.data.toList.take k ++ [s[k]'h] := by
    rw [List.take_succ_eq_append_getElem (by simpa using h)]; rfl
  rw [e]
  unfold ones
  rw [List.countP_append]
  by_cases h49 : ((s[k]'h).toNat : Int) = 49
  · rw [if_pos h49, byte_eq _ 49 h49]; rfl
  · rw [if_neg h49]
    have : ((s[k]'h) == 49) = false := by
      rw [beq_eq_false_iff_ne]
      intro e
      exact h49 (by rw [e]; rfl)
    simp [this]

theorem ones_le (l : List UInt8) : ones l ≤ l.length := List.countP_le_length

set_option maxRecDepth 100000 in
theorem r01_Pairs_c (s : ByteArray) (w : World) (hs : s.size ≤ 140737488351232) :
    Calls Try.prog 37 #[.string s] w fun e w' => e = .returned (.int .i64 (ones s.data.toList)) ∧ w = w' := by
  go_enter Try.func37, Try.ntmps37
  go_wp2_with fail
  go_loop [3, 4] (fun n i => ∃ k : Nat, k ≤ s.size ∧ i = .int .i64 k ∧ n = .int .i64 (ones (s.data.toList.take k))) (fun _ i => s.size - (intOf i).toNat)
  case atStart => exact ⟨0, Nat.zero_le _, rfl, rfl⟩
  case round =>
    obtain ⟨k, hk, rfl, rfl⟩ := hrel
    by_cases hlt : k < s.size
    · have hi : (k : Int) < (s.size : Int) := by omega
      have ht := ones_take s k hlt
      have hl := ones_le (s.data.toList.take k)
      have hl2 : (s.data.toList.take k).length ≤ k := List.length_take_le _ _
      have hb : ones (s.data.toList.take k) ≤ k := by omega
      generalize ones (s.data.toList.take k) = N at *
      by_cases h49 : ((s[k]'hlt).toNat : Int) = 49
      · rw [if_pos h49] at ht
        have Ht := Lib.hid ht
        have e1 : (((s[k]'hlt).toNat : Int) == 49) = true := by simp [h49]
        clear ht h49 hl hl2
        go_wp2_with fail
        go_round
        case rel => exact ⟨k + 1, by omega, by go_num, by rw [Ht.out]; go_num⟩
        case measure => simp [intOf]; omega
      · rw [if_neg h49] at ht
        have Ht := Lib.hid ht
        have e1 : (((s[k]'hlt).toNat : Int) == 49) = false := by simpa using h49
        clear ht h49 hl hl2
        go_wp2_with fail
        go_round
        case rel => exact ⟨k + 1, by omega, by go_num, by rw [Ht.out]; go_num⟩
        case measure => simp [intOf]; omega
    · obtain rfl : k = s.size := by omega
      have ht : s.data.toList.take s.size = s.data.toList := List.take_of_length_le (by simp)
      rw [ht]
      generalize hN : ones s.data.toList = N at *
      have HN := Lib.hid hN
      clear ht hlt hN
      go_wp2_with fail
      go_ret
      exact ⟨by rw [HN.out]; rfl, rfl⟩
set_option maxRecDepth 100000 in
theorem r10_Pairs_c (s : ByteArray) (w : World) (hs : s.size ≤ 140737488351232) :
    Calls Try.prog 27 #[.string s] w fun e w' => e = .returned (.int .i64 (ones s.data.toList)) ∧ w = w' := by
  go_enter Try.func27, Try.ntmps27
  go_wp2_with fail
  go_loop [3, 4] (fun n i => ∃ k : Nat, k ≤ s.size ∧ i = .int .i64 k ∧ n = .int .i64 (ones (s.data.toList.take k))) (fun _ i => s.size - (intOf i).toNat)
  case atStart => exact ⟨0, Nat.zero_le _, rfl, rfl⟩
  case round =>
    obtain ⟨k, hk, rfl, rfl⟩ := hrel
    by_cases hlt : k < s.size
    · have hi : (k : Int) < (s.size : Int) := by omega
      have ht := ones_take s k hlt
      have hl := ones_le (s.data.toList.take k)
      have hl2 : (s.data.toList.take k).length ≤ k := List.length_take_le _ _
      have hb : ones (s.data.toList.take k) ≤ k := by omega
      generalize ones (s.data.toList.take k) = N at *
      by_cases h49 : ((s[k]'hlt).toNat : Int) = 49
      · rw [if_pos h49] at ht
        have Ht := Lib.hid ht
        have e1 : (((s[k]'hlt).toNat : Int) == 49) = true := by simp [h49]
        clear ht h49 hl hl2
        go_wp2_with fail
        go_round
        case rel => exact ⟨k + 1, by omega, by go_num, by rw [Ht.out]; go_num⟩
        case measure => simp [intOf]; omega
      · rw [if_neg h49] at ht
        have Ht := Lib.hid ht
        have e1 : (((s[k]'hlt).toNat : Int) == 49) = false := by simpa using h49
        clear ht h49 hl hl2
        go_wp2_with fail
        go_round
        case rel => exact ⟨k + 1, by omega, by go_num, by rw [Ht.out]; go_num⟩
        case measure => simp [intOf]; omega
    · obtain rfl : k = s.size := by omega
      have ht : s.data.toList.take s.size = s.data.toList := List.take_of_length_le (by simp)
      rw [ht]
      generalize hN : ones s.data.toList = N at *
      have HN := Lib.hid hN
      clear ht hlt hN
      go_wp2_with fail
      go_ret
      exact ⟨by rw [HN.out]; rfl, rfl⟩

theorem bytes_toList (s : ByteArray) : s.toList = s.data.toList := by rw [ByteArray.toList_eq]

set_option maxRecDepth 100000 in
theorem before10_c (a b : ByteArray) (w : World) :
    Calls Try.prog 38 #[.string a, .string b] w fun e w' => e = .returned (.bool (before a.data.toList b.data.toList)) ∧ w = w' := by
  have e1 : a.data.toList.length = a.size := by simp
  have e2 : b.data.toList.length = b.size := by simp
  unfold before
  rw [e1, e2, ← bytes_toList a, ← bytes_toList b]
  clear e1 e2
  rcases Nat.lt_trichotomy a.size b.size with h | h | h
  · have hd : decide (a.size < b.size) = true := by simp [h]
    rw [hd, Bool.true_or]
    go_enter Try.func38, Try.ntmps38
    go_wp2_with fail
    go_ret
    exact ⟨rfl, rfl⟩
  · have hd : decide (a.size < b.size) = false := by simp; omega
    have h2 : decide (a.size = b.size) = true := by simp [h]
    have h3 : ((a.size : Int) == (b.size : Int)) = true := by simp [h]
    rw [hd, h2, Bool.false_or, Bool.true_and]
    clear h h2
    go_enter Try.func38, Try.ntmps38
    go_wp2_with fail
    go_ret
    exact ⟨rfl, rfl⟩
  · have hd : decide (a.size < b.size) = false := by simp; omega
    have h2 : decide (a.size = b.size) = false := by simp; omega
    have h3 : ((a.size : Int) == (b.size : Int)) = false := by simp; omega
    rw [hd, h2, Bool.false_or, Bool.false_and]
    clear h h2
    go_enter Try.func38, Try.ntmps38
    go_wp2_with fail
    go_ret
    exact ⟨rfl, rfl⟩

def pairsL (n : Nat) : List UInt8 := (List.replicate n [(49 : UInt8), 48]).flatten

theorem pairsL_len (n : Nat) : (pairsL n).length = 2 * n := by
  unfold pairsL; simp; omega
theorem pairsL_succ (n : Nat) : pairsL (n + 1) = pairsL n ++ [49, 48] := by
  unfold pairsL; rw [List.replicate_succ']; simp

theorem leastL_one (n : Nat) : leastL n 1 = pairsL n ++ [48] := rfl

theorem BytesAt.push2' {e : TypeId} {w1 : World} {B cap n g : Nat} {l : List UInt8} {c d : UInt8} (hn : n = l.length)
    (h1 : w1.ownsRow B e 1 (.slice (some ⟨g, 0, none⟩) (n + 2) cap) (n + 2) (Lib.byteCells l ++ [.int .u8 c.toNat, .int .u8 d.toNat])) : BytesAt e w1 B (some ⟨g, 0, none⟩) cap (l ++ [c, d]) := by
  subst hn
  unfold BytesAt
  simpa [Lib.byteCells] using h1

set_option maxRecDepth 100000 in
theorem number1_c (n : Nat) (w : World) (hn : n ≤ 1000000) :
    Calls Try.prog 44 #[.int .i64 n] w fun e w' => e = .returned (.string (strB (leastL n 1))) ∧ Below w.heap.size w w' := by
  obtain ⟨i1, hj, hy0, hy1, hy2⟩ := info_parts Try.info5
  have hni : (n : Int) ≤ 1000000 := by omega
  have hn0 : (0 : Int) ≤ n := by omega
  rw [leastL_one]
  go_enter Try.func44, Try.ntmps44
  go_wp2_with (at_make; refine wpList_make_own _ rfl _ _ 112 rfl w.heap.size 5 i1 _ 1 Try.underlying112 hj hy0 hy1 .i64 .i64 _ (2 * n + 1) rfl rfl (by omega) (by rw [hy2]; omega) (by unfold maxLen; omega) (Nat.le_refl _) ?_)
  intro w1 hown hgrow
  have hbel1 := (Below.refl w.heap.size w).grown hgrow (Nat.le_refl _) (by simp)
  have hby : BytesAt 5 w1 w.heap.size (some ⟨w.heap.size, 0, none⟩) (2 * n + 1) (pairsL 0) := hown
  have hB1 := hbel1.size
  clear hown hgrow
  go_wp2_with fail
  go_loopw [3, 4] (fun o i wr => ∃ (k : Nat) (ao : Option Addr) (cap : Nat), k ≤ n ∧ i = .int .i64 k ∧ o = .slice ao (pairsL k).length cap ∧ BytesAt 5 wr w.heap.size ao cap (pairsL k) ∧ Below w.heap.size w wr ∧ w.heap.size ≤ wr.heap.size) (fun _ i _ => n - (intOf i).toNat)
  case atStart => exact ⟨0, _, _, Nat.zero_le _, rfl, rfl, hby, hbel1, hB1⟩
  case round =>
    obtain ⟨k, ao, cap, hk, rfl, rfl, hby, hbel, hBw⟩ := hrel
    clear hbel1 hB1
    have hlen := pairsL_len k
    have hsucc := pairsL_succ k
    by_cases hlt : (k : Int) < (n : Int)
    · unfold BytesAt at hby
      have hlb : (pairsL k).length ≤ 2000000 := by omega
      have hs2 : (pairsL (k + 1)).length = (pairsL k).length + 2 := by rw [hsucc]; simp
      generalize hP : pairsL k = P at *
      have HS := Lib.hid (And.intro hsucc hs2)
      clear hlen hsucc hs2 hP
      go_wp2_with (at_builtin; refine wpList_append_lies _ rfl _ _ 112 rfl w.heap.size 5 i1 _ 1 1 Try.underlying112 hj hy0 hy1 hy2 rfl (by decide) (.slice ao P.length cap) P.length (Lib.byteCells P) rfl (hby.alloc _) ⟨wr.heap.size, 0, none⟩ 2 2 [.int .u8 49, .int .u8 48] rfl rfl (news2 (heap_alloc_new _ _)) (by simp; exact ⟨rfl, rfl⟩) (by decide) (by unfold maxLen; omega) (by omega) (by simp; omega) (wr.heap.size + 1) (by simp) ?_)
      intro g2 cap2 w2 hown2 hgrow hat hlt2
      have hbel2 := (hbel.alloc hBw (.cells #[.int .u8 49, .int .u8 48] 5 (0, 0))).grown hgrow (by simp; omega) (fun k hk => (World.ownsRow.lt hby k hk).1)
      have hby2 : BytesAt 5 w2 w.heap.size (some ⟨g2, 0, none⟩) cap2 (P ++ [49, 48]) := BytesAt.push2' rfl hown2
      have hB2 := hbel2.size
      clear hown2 hgrow hat hlt2 hby hbel
      go_wp2_with fail
      go_roundw
      case rel => exact ⟨k + 1, some ⟨g2, 0, none⟩, cap2, by omega, by go_num, by rw [HS.out.2], by rw [HS.out.1]; exact hby2, hbel2, hB2⟩
      case measure => simp [intOf] <;> omega
    · obtain rfl : k = n := by omega
      unfold BytesAt at hby
      have hlb : (pairsL k).length ≤ 2000000 := by omega
      generalize hP : pairsL k = P at *
      clear hlen hsucc hlt hk
      go_wp2_with (at_builtin; refine wpList_append_lies _ rfl _ _ 112 rfl w.heap.size 5 i1 _ 1 1 Try.underlying112 hj hy0 hy1 hy2 rfl (by decide) (.slice ao P.length cap) P.length (Lib.byteCells P) rfl (hby.alloc _) ⟨wr.heap.size, 0, none⟩ 1 1 [.int .u8 48] rfl rfl (news1 (heap_alloc_new _ _)) (by simp; rfl) (by decide) (by unfold maxLen; omega) (by omega) (by simp; omega) (wr.heap.size + 1) (by simp) ?_)
      intro g2 cap2 w2 hown2 hgrow hat hlt2
      have hbel2 := (hbel.alloc hBw (.cells #[.int .u8 48] 5 (0, 0))).grown hgrow (by simp; omega) (fun k hk => (World.ownsRow.lt hby k hk).1)
      have hby2 : BytesAt 5 w2 w.heap.size (some ⟨g2, 0, none⟩) cap2 (P ++ [48]) := BytesAt.push rfl hown2
      have hconv := run_back (P := Try.prog) hby2 112 9 Try.underlying112 Try.underlying5 Try.underlying9 (by simp)
      have hl1 : (P ++ [(48 : UInt8)]).length = P.length + 1 := by simp
      rw [hl1] at hconv
      have Hc := Lib.hid hconv
      have HP := Lib.hid hP
      have hconv' := Hc.out
      clear hown2 hgrow hat hlt2 hby hby2 hbel hP hconv hl1
      go_wp2_with fail
      go_ret
      exact ⟨by rw [HP.out]; rfl, hbel2⟩

end Go.Proofs.Ythmnbciefpkpmaa
