/- The walk of order.Rank. -/
import Derived.Test.YthmnbciefpkpmaaCounted
import Derived.Test.YthmnbciefpkpmaaTree
namespace Go.Proofs.Ythmnbciefpkpmaa
open Go.RowKit

theorem TabAt.keep {w w' : World} {b : Nat} {f : Nat → Nat → Nat} (h : TabAt w b f) (hk : KeepTy 175 w w') : TabAt w' b f := by
  obtain ⟨cs, hb, hs, hc⟩ := h
  exact ⟨cs, hk _ _ hb, hs, hc⟩

theorem tv_full {i j : Nat} (h : i + j ≤ 31) (hi : i ≤ 30) : tv 31 1 i j = ways i j := by
  unfold tv; rw [if_pos ⟨h, Or.inl (by omega)⟩]

/-- what Rank returns -/
def rankV (s : ByteArray) : Value := if validB s then (if s.size / 2 ≤ 30 then .tuple #[.int .i64 (rankL s.data.toList), .int .i64 0] else .tuple #[.int .i64 0, .int .i64 3]) else .tuple #[.int .i64 0, .int .i64 1]

theorem Word.inv0 {s : ByteArray} {pos k o : Nat} (hp : pos < s.size) (h : Word (s.data.toList.drop pos) k o) (hc : ((s[pos]'hp).toNat : Int) = 48) :
    ∃ o', o = o' + 1 ∧ Word (s.data.toList.drop (pos + 1)) k o' ∧ rk (s.data.toList.drop pos) k o = rk (s.data.toList.drop (pos + 1)) k o' := by
  rw [byte_drop s pos hp, byte_eq s[pos] 48 hc] at h ⊢
  cases h with
  | zero h => exact ⟨_, rfl, h, by simp [rk]⟩

theorem Word.inv1 {s : ByteArray} {pos k o : Nat} (hp : pos < s.size) (h : Word (s.data.toList.drop pos) k o) (hc : ¬ ((s[pos]'hp).toNat : Int) = 48) :
    ∃ k' o', k = k' + 1 ∧ o = o' + 1 ∧ Word (s.data.toList.drop (pos + 1)) k' (o' + 2) ∧ rk (s.data.toList.drop pos) k o = ways (k' + 1) o' + rk (s.data.toList.drop (pos + 1)) k' (o' + 2) ∧ (s[pos]'hp).toNat < 128 := by
  rw [byte_drop s pos hp] at h ⊢
  generalize hcc : s[pos]'hp = c at *
  cases h with
  | zero h => exact absurd rfl hc
  | one h => exact ⟨_, _, rfl, rfl, h, by simp [rk], by decide⟩

set_option maxRecDepth 100000 in
theorem rank_c (s : ByteArray) (w : World) (hs : s.size ≤ 140737488351232) :
    Calls Try.prog 30 #[.string s] w fun e w' => e = .returned (rankV s) ∧ Below w.heap.size w w' := by
  unfold rankV
  have hv := valid_c s w hs
  by_cases h : validB s = true
  · rw [if_pos h]
    rw [h] at hv
    obtain ⟨hwd, hsz⟩ := validB_word h
    have hlen : s.data.toList.length = s.size := by simp
    by_cases hk : s.size / 2 ≤ 30
    · rw [if_pos hk]
      have hR : rankL s.data.toList = base (s.size / 2) + rk (s.data.toList.drop 0) (s.size / 2) 1 := by simp only [rankL, hlen, List.drop_zero]
      have hrl := hwd.rk_lt
      have hbs : base (s.size / 2) + ways (s.size / 2) 1 ≤ 4611686018427387904 := base_lim31 (k := s.size / 2 + 1) (by omega)
      have hRl : rankL s.data.toList ≤ 4611686018427387904 := by rw [hR, List.drop_zero]; omega
      rw [← List.drop_zero (l := s.data.toList)] at hwd
      generalize hrr : rankL s.data.toList = R at *
      have Hwd := Lib.hid hwd
      have HR := Lib.hid hR
      have Hv := Lib.hid hv
      clear h hv hwd hR hrr hrl
      have hsz2 : s.size ≤ 61 := by omega
      clear hs hlen
      generalize hK : s.size / 2 = K at *
      have hq : ((s.size : Int)) / 2 = (K : Int) := by omega
      clear hK
      have Hsz := Lib.hid hsz
      clear hsz
      go_enter Try.func30, Try.ntmps30
      go_wp2_with (go_at_call 94; refine Hv.out.mono ?_; rintro e w1 ⟨rfl, hb1⟩)
      refine (counted_c _).mono ?_
      rintro e w2 ⟨b, rfl, hbb, ht, hb2⟩
      have hb12 := hb1.trans (hb2.mono hb1.size)
      have hb1s := hb1.size
      go_wp2_with fail
      go_loopw [6, 21] (fun n i wr => ∃ k : Nat, k ≤ K ∧ i = .int .i64 k ∧ n = .int .i64 (base k) ∧ wr = w2) (fun _ i _ => K - (intOf i).toNat)
      case atStart => exact ⟨0, by omega, rfl, rfl, rfl⟩
      case round =>
        obtain ⟨k, hkk, rfl, rfl, rfl⟩ := hrel
        by_cases hlt : (k : Int) < (K : Int)
        · have c1 := ht.cell k 1 (by omega) (by omega)
          rw [tv_full (by omega) (by omega)] at c1
          have hbn : base (k + 1) = base k + ways k 1 := rfl
          have hbl := base_lim31 (k := k + 1) (by omega)
          have hkn : k < 31 := by omega
          rw [hbn] at hbl
          generalize ways k 1 = W at *
          have Hbn := Lib.hid hbn
          clear hbn
          generalize base k = N at *
          go_wp2_with fail
          go_roundw
          case rel => exact ⟨k + 1, by omega, by go_num, by rw [Hbn.out]; go_num, by simp⟩
          case measure => simp [intOf]; omega
        · obtain rfl : k = K := by omega
          clear hlt hkk
          have Hb12 := hb12
          have hblt : b < wr.heap.size := by obtain ⟨cs, hbc, _⟩ := ht; exact (Array.getElem?_eq_some_iff.1 hbc).1
          generalize hB : base k = N0 at *
          have hwd1 := Hwd.out
          have hR1 := HR.out
          generalize hr0 : rk (s.data.toList.drop 0) k 1 = r0 at *
          have Hst := Lib.hid (And.intro hwd1 (And.intro hR1 hr0))
          clear hwd1 hR1 hr0 Hwd HR hB hb12 hb1 hb2 hb1s hbs
          go_wp2_with fail
          go_loopw [4, 6, 8] (fun kk n o wr2 => ∃ (pos k1 o1 n1 : Nat), wr2 = wr.iter s pos ∧ pos ≤ s.size ∧ kk = .int .i64 k1 ∧ n = .int .i64 n1 ∧ o = .int .i64 o1 ∧ Word (s.data.toList.drop pos) k1 o1 ∧ n1 + rk (s.data.toList.drop pos) k1 o1 = R ∧ k1 ≤ 30 ∧ k1 + o1 ≤ 31) (fun _ _ _ w' => s.size - w'.iterPos wr.heap.size)
          case atStart => exact ⟨0, k, 1, N0, rfl, by omega, rfl, rfl, rfl, Hst.out.1, by rw [Hst.out.2.2]; exact Hst.out.2.1.symm, by omega, by omega⟩
          case round =>
            obtain ⟨pos, k1, o1, n1, rfl, hps, rfl, rfl, rfl, hwd, hn1, hk30, hko⟩ := hrel
            have ht2 := TabAt.keep (w' := wr.iter s (pos + 1)) ht (KeepTy.below ((Below.refl _ _).alloc (Nat.le_refl _) _))
            by_cases hp : pos < s.size
            · by_cases h48 : ((s[pos]'hp).toNat : Int) = 48
              · have ha : (s[pos]'hp).toNat < 128 := by omega
                have hnx : ∀ ty, (Instr.next (.pointer (some ⟨wr.heap.size, 0, none⟩)) true ty).run Try.prog (wr.iter s pos) = _ := fun ty => run_next_ascii wr s pos ty hp ha
                obtain ⟨o2, rfl, hwd2, hrk⟩ := hwd.inv0 hp h48
                rw [hrk] at hn1
                have Hn := Lib.hid (And.intro hwd2 hn1)
                clear hwd hwd2 hn1 hrk
                go_wp2_with fail
                go_roundw
                case rel => exact ⟨pos + 1, k1, o2, n1, rfl, by omega, rfl, rfl, by go_num, Hn.out.1, Hn.out.2, hk30, by omega⟩
                case measure => simp; omega
              · obtain ⟨k2, o2, rfl, rfl, hwd2, hrk, ha⟩ := hwd.inv1 hp h48
                have hnx : ∀ ty, (Instr.next (.pointer (some ⟨wr.heap.size, 0, none⟩)) true ty).run Try.prog (wr.iter s pos) = _ := fun ty => run_next_ascii wr s pos ty hp ha
                have h48b : (((s[pos]'hp).toNat : Int) == 48) = false := by simpa using h48
                have c1 := ht2.cell (k2 + 1) o2 (by omega) (by omega)
                rw [tv_full (by omega) (by omega)] at c1
                rw [hrk] at hn1
                generalize ways (k2 + 1) o2 = W at *
                have hnb : n1 + W ≤ 4611686018427387904 := by omega
                have hn3 : n1 + W + rk (s.data.toList.drop (pos + 1)) k2 (o2 + 2) = R := by omega
                have Hn := Lib.hid (And.intro hwd2 hn3)
                clear hwd hwd2 hn1 hrk hn3 h48
                go_wp2_with fail
                go_roundw
                case rel => exact ⟨pos + 1, k2, o2 + 2, n1 + W, rfl, by omega, by go_num, by go_num, by go_num, Hn.out.1, Hn.out.2, by omega, by omega⟩
                case measure => simp; omega
            · have hnx : ∀ ty, (Instr.next (.pointer (some ⟨wr.heap.size, 0, none⟩)) true ty).run Try.prog (wr.iter s pos) = _ := fun ty => run_next_end wr s pos ty hp
              have hn2 : n1 = R := by
                rw [List.drop_of_length_le (by simp; omega)] at hn1
                simpa [rk] using hn1
              subst hn2
              clear hn1 hwd
              go_wp2_with fail
              go_ret2
              exact ⟨rfl, Hb12.alloc Hb12.size _⟩
    · rw [if_neg hk]
      have hq : (30 : Int) < (s.size : Int) / 2 := by omega
      have Hv := Lib.hid hv
      clear hv hwd hk h hlen hsz
      go_enter Try.func30, Try.ntmps30
      go_wp2_with (go_at_call 94; refine Hv.out.mono ?_; rintro e w1 ⟨rfl, hb1⟩)
      go_ret2
      exact ⟨rfl, hb1⟩
  · rw [if_neg h]
    have hf : validB s = false := by simpa using h
    rw [hf] at hv
    have Hv := Lib.hid hv
    clear hv h hf
    go_enter Try.func30, Try.ntmps30
    go_wp2_with (go_at_call 94; refine Hv.out.mono ?_; rintro e w1 ⟨rfl, hb1⟩)
    go_ret2
    exact ⟨rfl, hb1⟩

end Go.Proofs.Ythmnbciefpkpmaa
