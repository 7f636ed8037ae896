/- Contracts of narcissustop: whole, play, equal, returns, lasts, number. -/
import Derived.Test.YthmnbciefpkpmaaTopFollow
import Derived.Test.YthmnbciefpkpmaaTopText
namespace Go.Proofs.Ythmnbciefpkpmaa
open Go.RowKit

theorem whole_c (ao : Option Addr) (b o cap : Nat) (l : List Ins) (w : World) (hp : ProgIn w ao b o l) (hlen : l.length ≤ 140737488351232) :
    Calls Try.prog 72 #[.slice ao l.length cap] w fun e w' => e = .returned (.bool (goodP 4000 2000000 l)) ∧ Below w.heap.size w w' := by
  go_enter Try.func72, Try.ntmps72
  go_wp2_with (go_at_call 69; refine (good_c ao b o cap l _ _ _ hp (by omega) (by omega) hlen).mono ?_; rintro e w' ⟨rfl, hb⟩)
  go_ret
  exact ⟨rfl, hb⟩

set_option maxRecDepth 100000 in
theorem play_c (ao : Option Addr) (b o cap : Nat) (l : List Ins) (most : Int) (px : Option Addr) (x : T) (fuel : Nat) (w : World) (y : T) (k how ms : Nat) (hp : ProgIn w ao b o l) (hg : goodP most 2000000 l = true) (hmost : most ≤ 4000)
    (hx : Tr 171 w x px) (hxs : x.size ≤ 100000000) (hf : fuel ≤ 1000000000) (hR : followP l x fuel = (y, k, how, ms)) :
    Calls Try.prog 75 #[.slice ao l.length cap, .pointer px, .int .i64 fuel] w fun e w' =>
      (∃ p, e = .returned (.tuple #[.pointer p, .int .i64 k, .int .i64 how]) ∧ Tr 171 w' y p) ∧ Below w.heap.size w w' := by
  have h := follow_c ao b o cap l most px x fuel w hp hg hmost hx hxs hf
  rw [hR] at h
  have H := Lib.hid h
  clear h hR
  go_enter Try.func75, Try.ntmps75
  go_wp2_with (go_at_call 129; refine H.out.mono ?_; rintro e w1 ⟨⟨p, rfl, ht⟩, hb⟩)
  go_ret3
  exact ⟨⟨p, rfl, ht⟩, hb⟩

/-- 'equal' of equal trees, and of different ones -/
theorem equal_c (pa pb : Option Addr) (a b : T) (w : World) (ha : Tr 171 w a pa) (hb : Tr 171 w b pb) (hsa : a.size ≤ 1000000000) (hsb : b.size ≤ 1000000000) :
    Calls Try.prog 73 #[.pointer pa, .pointer pb] w fun e w' => e = .returned (.bool (decide (enc a = enc b))) ∧ Below w.heap.size w w' := by
  by_cases hs : a.size = b.size
  · have hsz : ((a.size : Int) == (b.size : Int)) = true := by simp [hs]
    generalize hE : decide (enc a = enc b) = E
    have HE := Lib.hid hE
    clear hE hs
    go_enter Try.func73, Try.ntmps73
    go_wp2_with fail
    refine (size_c pa a _ ha).mono ?_
    rintro e w' ⟨rfl, rfl⟩
    go_wp2_with fail
    refine (size_c pb b _ hb).mono ?_
    rintro e w' ⟨rfl, rfl⟩
    go_wp2_with fail
    refine (text_c pa a _ ha hsa).mono ?_
    rintro e w1 ⟨rfl, hb1⟩
    go_wp2_with fail
    refine (text_c pb b _ (Tr.keep (KeepTy.below hb1) _ _ hb) hsb).mono ?_
    rintro e w2 ⟨rfl, hb2⟩
    go_wp2_with fail
    go_ret
    refine ⟨?_, hb1.trans (hb2.mono hb1.size)⟩
    rw [← HE.out]
    by_cases h : enc a = enc b
    · simp [h]
    · simp [h]
  · have hsz : ((a.size : Int) == (b.size : Int)) = false := by simp; omega
    have hE : decide (enc a = enc b) = false := by
      simp only [decide_eq_false_iff_not]
      intro h
      have := congrArg List.length h
      rw [enc_len, enc_len] at this
      exact hs this
    rw [hE]
    clear hE hs
    go_enter Try.func73, Try.ntmps73
    go_wp2_with fail
    refine (size_c pa a _ ha).mono ?_
    rintro e w' ⟨rfl, rfl⟩
    go_wp2_with fail
    refine (size_c pb b _ hb).mono ?_
    rintro e w' ⟨rfl, rfl⟩
    go_wp2_with fail
    go_ret
    exact ⟨rfl, Below.refl _ _⟩

/-- the number n as a tree -/
def numT : Nat → T
  | 0 => .nil
  | n + 1 => .node .nil (numT n)

theorem numT_size : ∀ n, (numT n).size = 2 * n + 1
  | 0 => rfl
  | n + 1 => by simp [numT, T.size, numT_size n]; omega

set_option maxRecDepth 100000 in
theorem number_c (n : Int) (w : World) (h : n ≤ 1000000) :
    Calls Try.prog 82 #[.int .i64 n] w fun e w' => (∃ p, e = .returned (.pointer p) ∧ Tr 171 w' (numT n.toNat) p) ∧ Below w.heap.size w w' := by
  go_enter Try.func82, Try.ntmps82
  go_wp2_with fail
  go_loopw [3, 4] (fun c i wr => ∃ (k : Nat) (p : Option Addr), k ≤ n.toNat ∧ i = .int .i64 k ∧ c = .pointer p ∧ Tr 171 wr (numT k) p ∧ Below w.heap.size w wr) (fun _ i _ => n.toNat - (intOf i).toNat)
  case atStart => exact ⟨0, none, by omega, rfl, rfl, rfl, Below.refl _ _⟩
  case round =>
    obtain ⟨k, p, hk, rfl, rfl, ht, hbel⟩ := hrel
    have hsize := hbel.size
    by_cases hlt : (k : Int) < n
    · have hs := numT_size k
      have hs1 : T.nil.size = 1 := rfl
      have hsum : T.nil.size + (numT k).size < 9223372036854775807 := by omega
      have Hs := Lib.hid hsum
      clear hs hs1 hsum
      go_wp2_with (go_at_call 81; refine (pair_c none p .nil (numT k) _ rfl ht Hs.out).mono ?_; rintro e w' ⟨rfl, rfl⟩)
      go_roundw
      case rel =>
        refine ⟨k + 1, _, by omega, by go_num, rfl, ⟨_, none, p, rfl, heap_at _ _ _ rfl, rfl, Tr.keep (KeepTy.alloc _ _ _) _ _ ht⟩, hbel.alloc hsize _⟩
      case measure => simp [intOf]; omega
    · obtain rfl : k = n.toNat := by omega
      have hlt2 : n ≤ (n.toNat : Int) := by omega
      clear hlt hk
      have Ht := Lib.hid ht
      generalize hm : n.toNat = m at *
      have Hm := Lib.hid hm
      clear hm
      go_wp2_with fail
      go_ret
      exact ⟨⟨p, rfl, by rw [Hm.out]; exact Ht.out⟩, hbel⟩

end Go.Proofs.Ythmnbciefpkpmaa
