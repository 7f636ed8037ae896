/- Contracts of the package tree (end, Valid) and of the first reference (End, Valid). -/
import Derived.Test.YthmnbciefpkpmaaScan
import Derived.Test.YthmnbciefpkpmaaProg
import Derived.Deep.LoopGhost
namespace Go.Proofs.Ythmnbciefpkpmaa
open Go.RowKit

theorem width_pos (s : ByteArray) (pos : Nat) (h : pos < s.size) : 1 ≤ (Utf8.decode s pos).2 := by
  by_cases ha : (s[pos]'h).toNat < 128
  · rw [decode_ascii s pos h ha]
    exact Nat.le_refl _
  · exact (decode_high s pos h (by omega)).2

theorem scan_cons0 {s : ByteArray} {p : Nat} {o : Nat} (hp : p < s.size) (hc : ((s[p]'hp).toNat : Int) = 48) : scan (s.data.toList.drop p) (o + 1) = (scan (s.data.toList.drop (p + 1)) o).map (· + 1) := by
  rw [byte_drop s p hp, byte_eq s[p] 48 hc]; simp [scan]

theorem scan_cons1 {s : ByteArray} {p : Nat} {o : Nat} (hp : p < s.size) (hc : ((s[p]'hp).toNat : Int) = 49) : scan (s.data.toList.drop p) (o + 1) = (scan (s.data.toList.drop (p + 1)) (o + 2)).map (· + 1) := by
  rw [byte_drop s p hp, byte_eq s[p] 49 hc]; simp [scan]

theorem scan_bad {s : ByteArray} {p : Nat} {o : Nat} (hp : p < s.size) (h0 : ¬ ((s[p]'hp).toNat : Int) = 48) (h1 : ¬ ((s[p]'hp).toNat : Int) = 49) : scan (s.data.toList.drop p) (o + 1) = none := by
  rw [byte_drop s p hp]
  simp only [scan]
  rw [if_neg (fun e => h0 (by rw [e]; rfl)), if_neg (fun e => h1 (by rw [e]; rfl))]

theorem scan_out {s : ByteArray} {p : Nat} {o : Nat} (hp : ¬ p < s.size) : scan (s.data.toList.drop p) (o + 1) = none := by
  rw [List.drop_of_length_le (by simp; omega)]; rfl

/-- what 'end' returns -/
def endV (r : Option Nat) (from_ : Int) : Value := match r with
  | some n => .tuple #[.int .i64 (from_ + n), .bool true]
  | none => .tuple #[.int .i64 0, .bool false]

set_option maxRecDepth 100000 in
set_option maxHeartbeats 1000000 in
theorem end_c (s : ByteArray) (n : Nat) (w : World) (hn : n ≤ s.size) (hs : s.size ≤ 140737488351232) :
    Calls Try.prog 135 #[.string s, .int .i64 n] w fun e w' => e = .returned (endV (scan (s.data.toList.drop n) 1) n) ∧ Below w.heap.size w w' := by
  have hsub : (s.extract n s.size).data.toList = s.data.toList.drop n := by rw [Lib.extract_data]; rw [List.take_of_length_le (by simp)]
  have hsz : (s.extract n s.size).size = s.size - n := by simp
  rw [← hsub]
  generalize hu : s.extract n s.size = u at *
  have Hu := Lib.hid hu
  clear hu hsub
  have hun : u.size ≤ 140737488351232 := by omega
  have hn1 : (n : Int) + u.size ≤ 140737488351232 := by omega
  have hn2 : (n : Int) ≤ (s.size : Int) := by omega
  clear hsz
  generalize hV : endV (scan u.data.toList 1) n = V
  have HV := Lib.hid hV
  clear hV
  go_enter Try.func135, Try.ntmps135
  go_wp2_with fail
  rw [Hu.out]
  clear hs hn2 hn
  go_loopw [6] (fun op wr => ∃ (pos o : Nat), wr = w.iter u pos ∧ op = .int .i64 ((o + 1 : Nat) : Int) ∧ pos ≤ u.size ∧ o ≤ pos ∧ scan u.data.toList 1 = (scan (u.data.toList.drop pos) (o + 1)).map (· + pos)) (fun _ w' => u.size - w'.iterPos w.heap.size)
  case atStart => exact ⟨0, 0, rfl, rfl, by omega, by omega, by simp⟩
  case round =>
    obtain ⟨pos, o, rfl, rfl, hps, hop, hsc⟩ := hrel
    have Hsc := Lib.hid hsc
    clear hsc
    by_cases hp : pos < u.size
    · by_cases ha : (u[pos]'hp).toNat < 128
      · have hnx : ∀ ty, (Instr.next (.pointer (some ⟨w.heap.size, 0, none⟩)) true ty).run Try.prog (w.iter u pos) = _ := fun ty => run_next_ascii w u pos ty hp ha
        by_cases h48 : ((u[pos]'hp).toNat : Int) = 48
        · have hs1 := Hsc.out
          rw [scan_cons0 hp h48] at hs1
          cases o with
          | zero =>
            rw [scan_zero] at hs1
            have HV2 := Lib.hid (show V = .tuple #[.int .i64 ((n : Int) + (pos : Int) + 1), .bool true] by rw [← HV.out, hs1]; simp [endV]; omega)
            clear hs1 Hsc HV
            go_wp2_with fail
            go_ret2
            exact ⟨by rw [HV2.out]; rfl, (Below.refl _ _).alloc (Nat.le_refl _) _⟩
          | succ o =>
            have Hs1 := Lib.hid hs1
            have hob : (((o + 1 + 1 : Nat) : Int) - 1 == 0) = false := by simp; omega
            clear hs1
            go_wp2_with fail
            go_roundw
            case rel => exact ⟨pos + 1, o, rfl, by go_num, by omega, by omega, by rw [Hs1.out]; simp [Option.map_map]; congr 1; funext x; simp; omega⟩
            case measure => simp; omega
        · by_cases h49 : ((u[pos]'hp).toNat : Int) = 49
          · have hs1 := Hsc.out
            rw [scan_cons1 hp h49] at hs1
            have Hs1 := Lib.hid hs1
            have hob : (((o + 1 : Nat) : Int) + 1 == 0) = false := by simp; omega
            clear hs1
            go_wp2_with fail
            go_roundw
            case rel => exact ⟨pos + 1, o + 1, rfl, by go_num, by omega, by omega, by rw [Hs1.out]; simp [Option.map_map]; congr 1; funext x; simp; omega⟩
            case measure => simp; omega
          · have HV2 := Lib.hid (show V = .tuple #[.int .i64 0, .bool false] by rw [← HV.out, Hsc.out, scan_bad hp h48 h49]; rfl)
            have h48b : (((u[pos]'hp).toNat : Int) == 48) = false := by simpa using h48
            have h49b : (((u[pos]'hp).toNat : Int) == 49) = false := by simpa using h49
            clear Hsc HV
            go_wp2_with fail
            go_ret2
            exact ⟨by rw [HV2.out]; rfl, (Below.refl _ _).alloc (Nat.le_refl _) _⟩
      · have hd := (decode_high u pos hp (by omega)).1
        have hnx : ∀ ty, (Instr.next (.pointer (some ⟨w.heap.size, 0, none⟩)) true ty).run Try.prog (w.iter u pos) = _ := fun ty => run_next_any w u pos ty hp
        have HV2 := Lib.hid (show V = .tuple #[.int .i64 0, .bool false] by rw [← HV.out, Hsc.out, scan_bad hp (by omega) (by omega)]; rfl)
        generalize Utf8.decode u pos = d at *
        have h48b : ((d.1 : Int) == 48) = false := by simp; omega
        have h49b : ((d.1 : Int) == 49) = false := by simp; omega
        clear Hsc HV
        go_wp2_with fail
        go_ret2
        exact ⟨by rw [HV2.out]; rfl, (Below.refl _ _).alloc (Nat.le_refl _) _⟩
    · have hnx : ∀ ty, (Instr.next (.pointer (some ⟨w.heap.size, 0, none⟩)) true ty).run Try.prog (w.iter u pos) = _ := fun ty => run_next_end w u pos ty hp
      have HV2 := Lib.hid (show V = .tuple #[.int .i64 0, .bool false] by rw [← HV.out, Hsc.out, scan_out hp]; rfl)
      clear Hsc HV
      go_wp2_with fail
      go_ret2
      exact ⟨by rw [HV2.out]; rfl, (Below.refl _ _).alloc (Nat.le_refl _) _⟩

theorem valid_c (s : ByteArray) (w : World) (hs : s.size ≤ 140737488351232) :
    Calls Try.prog 94 #[.string s] w fun e w' => e = .returned (.bool (validB s)) ∧ Below w.heap.size w w' := by
  unfold validB
  by_cases h : (2000000 : Int) < (s.size : Int)
  · have hd : decide (s.size ≤ 2000000) = false := by simp; omega
    rw [hd]
    clear hd
    go_enter Try.func94, Try.ntmps94
    go_wp2_with fail
    go_ret
    exact ⟨rfl, Below.refl _ _⟩
  · have hd : decide (s.size ≤ 2000000) = true := by simp; omega
    rw [hd]
    clear hd
    have hc := end_c s 0 w (by omega) hs
    simp only [List.drop_zero] at hc
    cases hsc : scan s.data.toList 1 with
    | none =>
      rw [hsc] at hc
      have Hc := Lib.hid hc
      clear hc hsc
      go_enter Try.func94, Try.ntmps94
      go_wp2_with (go_at_call 135; refine Hc.out.mono ?_; simp only [endV]; rintro e w' ⟨rfl, hb⟩)
      go_ret
      exact ⟨rfl, hb⟩
    | some m =>
      rw [hsc] at hc
      have hm := scan_len _ _ _ hsc
      simp only [Array.length_toList] at hm
      have hm2 : m ≤ s.size := hm
      have Hc := Lib.hid hc
      clear hc hsc hm
      by_cases he : m = s.size
      · have heb : ((m : Int) == (s.size : Int)) = true := by simp [he]
        have He := Lib.hid he
        clear he
        go_enter Try.func94, Try.ntmps94
        go_wp2_with (go_at_call 135; refine Hc.out.mono ?_; simp only [endV, Int.natCast_zero, Int.zero_add]; rintro e w' ⟨rfl, hb⟩)
        go_ret
        exact ⟨by simp [He.out], hb⟩
      · have heb : ((m : Int) == (s.size : Int)) = false := by simp; omega
        have He := Lib.hid he
        clear he
        go_enter Try.func94, Try.ntmps94
        go_wp2_with (go_at_call 135; refine Hc.out.mono ?_; simp only [endV, Int.natCast_zero, Int.zero_add]; rintro e w' ⟨rfl, hb⟩)
        go_ret
        exact ⟨by simp [He.out], hb⟩

end Go.Proofs.Ythmnbciefpkpmaa
