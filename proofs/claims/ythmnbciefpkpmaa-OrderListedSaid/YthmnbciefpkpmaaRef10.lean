/- The walks of Count, Rank, Unrank, least and Next of the tenth reference. -/
import Derived.Test.YthmnbciefpkpmaaWays
import Derived.Test.YthmnbciefpkpmaaRef1
import Derived.Test.YthmnbciefpkpmaaCount
namespace Go.Proofs.Ythmnbciefpkpmaa
open Go.RowKit

theorem OutR.num {w : World} {B g : Nat} {gs : Nat → Nat} (h : OutR w B g 32 gs (wv 31 1)) (n k : Nat) (hnk : n + k ≤ 31) (hk : k ≤ 30) :
    w.cell? ⟨g, n, none⟩ = some (.slice (some ⟨gs n, 0, none⟩) 31 31) ∧ w.cell? ⟨gs n, k, none⟩ = some (.int .i64 (ways k n)) := by
  refine ⟨h.cell n (by omega), ?_⟩
  have := (h.rows n (by omega)).2.cell k (by omega)
  rw [wv_full hnk hk] at this
  exact this

theorem OutR.keepTy {w w' : World} {B g m : Nat} {gs : Nat → Nat} {f : Nat → Nat → Nat} (h : OutR w B g m gs f) (hk : ∀ ty, ty ≠ 5 → KeepTy ty w w') : OutR w' B g m gs f := by
  obtain ⟨cs, h1, h2, h3, h4⟩ := h.outer
  refine ⟨h.base, ⟨cs, hk _ (by decide) _ _ h1, h2, h3, h4⟩, fun n hn => ?_, h.inj⟩
  obtain ⟨r1, cs2, r2, r3⟩ := h.rows n hn
  exact ⟨r1, cs2, hk _ (by decide) _ _ r2, r3⟩

set_option maxRecDepth 100000 in
theorem count10_c (k : Nat) (w : World) (h : k ≤ 30) :
    Calls Try.prog 42 #[.int .i64 k] w fun e w' => e = .returned (.int .i64 (ways k 1)) ∧ Below w.heap.size w w' := by
  have i1 : (0 : Int) ≤ (k : Int) := by omega
  have i2 : (k : Int) < 31 := by omega
  go_enter Try.func42, Try.ntmps42
  go_wp2_with fail
  refine (ways_c _).mono ?_
  rintro e w2 ⟨⟨g, gs, rfl, ht⟩, hb⟩
  obtain ⟨c1, c2⟩ := ht.num 1 k (by omega) h
  generalize hW : ways k 1 = W at *
  have HW := Lib.hid hW
  clear ht hW
  go_wp2_with fail
  go_ret
  exact ⟨by rw [HW.out]; rfl, hb⟩

set_option maxRecDepth 100000 in
theorem rank10_c (t : T) (w : World) (h : t.size ≤ 61) :
    Calls Try.prog 28 #[.string (strB (enc t))] w fun e w' => e = .returned (.int .i64 (rankL (enc t))) ∧ Below w.heap.size w w' := by
  obtain ⟨K, hw, hsz⟩ := word_valid (t := t) (by omega)
  have hK : K ≤ 30 := by omega
  have hrl := hw.rk_lt
  have hR : rankL (enc t) = base K + rk ((strB (enc t)).data.toList.drop 0) K 1 := by rw [rankL_word hw]; simp
  have hbs : base K + ways K 1 ≤ 4611686018427387904 := base_lim31 (k := K + 1) (by omega)
  have hRl : rankL (enc t) ≤ 4611686018427387904 := by rw [rankL_word hw]; omega
  have hon := hw.ones
  have hs61 : (strB (enc t)).size = 2 * K + 1 := by rw [strB_size, enc_len]; exact hsz
  have hp := fun w => r10_Pairs_c (strB (enc t)) w (by omega)
  rw [strB_data, hon] at hp
  have hwd : Word ((strB (enc t)).data.toList.drop 0) K 1 := by simpa using hw
  generalize rankL (enc t) = R at *
  generalize strB (enc t) = s at *
  have Hp := Lib.hid hp
  have HR := Lib.hid (And.intro hwd hR)
  clear hp hwd hR hw hon hrl
  go_enter Try.func28, Try.ntmps28
  go_wp2_with fail
  refine (ways_c _).mono ?_
  rintro e w2 ⟨⟨g, gs, rfl, ht⟩, hb2⟩
  go_wp2_with fail
  refine (Hp.out _).mono ?_
  rintro e w3 ⟨rfl, rfl⟩
  clear Hp
  go_wp2_with fail
  go_loop [6, 7] (fun n i => ∃ k : Nat, k ≤ K ∧ i = .int .i64 k ∧ n = .int .i64 (base k)) (fun _ i => K - (intOf i).toNat)
  case atStart => exact ⟨0, by omega, rfl, rfl⟩
  case round =>
    obtain ⟨k, hkk, rfl, rfl⟩ := hrel
    by_cases hlt : (k : Int) < (K : Int)
    · obtain ⟨c1, c2⟩ := ht.num 1 k (by omega) (by omega)
      have hbn : base (k + 1) = base k + ways k 1 := rfl
      have hbl := base_lim31 (k := k + 1) (by omega)
      rw [hbn] at hbl
      have Hbn := Lib.hid hbn
      have i2 : (k : Int) < 31 := by omega
      generalize ways k 1 = W at *
      generalize base k = N at *
      clear hbn
      go_wp2_with fail
      go_round
      case rel => exact ⟨k + 1, by omega, by go_num, by rw [Hbn.out]; go_num⟩
      case measure => simp [intOf]; omega
    · obtain rfl : k = K := by omega
      clear hlt hkk
      generalize hB : base k = N0 at *
      have Hst := Lib.hid HR.out
      clear HR hB
      go_wp2_with fail
      go_loop [4, 5, 6, 8] (fun o kk n i => ∃ (pos k1 o1 n1 : Nat), i = .int .i64 pos ∧ pos ≤ s.size ∧ kk = .int .i64 k1 ∧ n = .int .i64 n1 ∧ o = .int .i64 o1 ∧ Word (s.data.toList.drop pos) k1 o1 ∧ n1 + rk (s.data.toList.drop pos) k1 o1 = R ∧ k1 ≤ 30 ∧ k1 + o1 ≤ 31) (fun _ _ _ i => s.size - (intOf i).toNat)
      case atStart => exact ⟨0, k, 1, N0, rfl, by omega, rfl, rfl, rfl, Hst.out.1, Hst.out.2.symm, by omega, by omega⟩
      case round =>
        obtain ⟨pos, k1, o1, n1, rfl, hps, rfl, rfl, rfl, hwd, hn1, hk30, hko⟩ := hrel
        by_cases hp : pos < s.size
        · have i1 : (pos : Int) < (s.size : Int) := by omega
          by_cases h48 : ((s[pos]'hp).toNat : Int) = 48
          · have h48b : (((s[pos]'hp).toNat : Int) == 48) = true := by simp [h48]
            obtain ⟨o2, rfl, hwd2, hrk⟩ := hwd.inv0 hp h48
            rw [hrk] at hn1
            have Hn := Lib.hid (And.intro hwd2 hn1)
            clear hwd hwd2 hn1 hrk h48
            go_wp2_with fail
            go_round
            case rel => exact ⟨pos + 1, k1, o2, n1, by go_num, by omega, rfl, rfl, by go_num, Hn.out.1, Hn.out.2, hk30, by omega⟩
            case measure => simp [intOf]; omega
          · obtain ⟨k2, o2, rfl, rfl, hwd2, hrk, ha⟩ := hwd.inv1 hp h48
            have h48b : (((s[pos]'hp).toNat : Int) == 48) = false := by simpa using h48
            obtain ⟨c1, c2⟩ := ht.num o2 (k2 + 1) (by omega) (by omega)
            rw [hrk] at hn1
            generalize ways (k2 + 1) o2 = W at *
            have hnb : n1 + W ≤ 4611686018427387904 := by omega
            have hn3 : n1 + W + rk (s.data.toList.drop (pos + 1)) k2 (o2 + 2) = R := by omega
            have Hn := Lib.hid (And.intro hwd2 hn3)
            clear hwd hwd2 hn1 hrk hn3 h48 ha
            go_wp2_with fail
            go_round
            case rel => exact ⟨pos + 1, k2, o2 + 2, n1 + W, by go_num, by omega, by go_num, by go_num, by go_num, Hn.out.1, Hn.out.2, by omega, by omega⟩
            case measure => simp [intOf]; omega
        · have hn2 : n1 = R := by
            rw [List.drop_of_length_le (by simp; omega)] at hn1
            simpa [rk] using hn1
          subst hn2
          have i1 : (s.size : Int) ≤ (pos : Int) := by omega
          clear hn1 hwd
          go_wp2_with fail
          go_ret
          exact ⟨rfl, hb2⟩

/-- what Unrank of the reference returns -/
def unrank10V (n : Int) : Value := if n < 0 then .tuple #[.string ⟨#[]⟩, .bool false] else match unrankL n.toNat with
  | some l => .tuple #[.string (strB l), .bool true]
  | none => .tuple #[.string ⟨#[]⟩, .bool false]

set_option maxRecDepth 100000 in
set_option maxHeartbeats 2000000 in
theorem unrank10_c (n : Int) (w : World) (hn : n ≤ 9223372036854775807) :
    Calls Try.prog 32 #[.int .i64 n] w fun e w' => e = .returned (unrank10V n) ∧ Below w.heap.size w w' := by
  unfold unrank10V
  by_cases h0 : n < 0
  · rw [if_pos h0]
    go_enter Try.func32, Try.ntmps32
    go_wp2_with fail
    refine (ways_c _).mono ?_
    rintro e w2 ⟨⟨g, gs, rfl, ht⟩, hb2⟩
    go_wp2_with fail
    go_ret2
    exact ⟨rfl, hb2⟩
  · rw [if_neg h0]
    obtain ⟨N, rfl⟩ : ∃ N : Nat, n = (N : Int) := ⟨n.toNat, by omega⟩
    simp only [Int.toNat_natCast]
    generalize hV : (match unrankL N with | some l => Value.tuple #[.string (strB l), .bool true] | none => Value.tuple #[.string ⟨#[]⟩, .bool false]) = V
    have HV := Lib.hid hV
    clear hV h0
    obtain ⟨i1, hj, hy0, hy1, hy2⟩ := info_parts Try.info5
    go_enter Try.func32, Try.ntmps32
    go_wp2_with fail
    refine (ways_c _).mono ?_
    rintro e w2 ⟨⟨g, gs, rfl, ht⟩, hb2⟩
    go_wp2_with fail
    go_loopw [0, 6] (fun n1 k1 wr => ∃ (m k : Nat), n1 = .int .i64 m ∧ k1 = .int .i64 k ∧ wr = w2 ∧ k ≤ 30 ∧ m ≤ N ∧ seek 31 0 N = seek (31 - k) k m) (fun _ i _ => 31 - (intOf i).toNat)
    case atStart => exact ⟨N, 0, rfl, rfl, rfl, by omega, Nat.le_refl _, rfl⟩
    case round =>
      obtain ⟨m, k, rfl, rfl, rfl, hk, hm, hse⟩ := hrel
      obtain ⟨c1, c2⟩ := ht.num 1 k (by omega) hk
      have hwl := ways_lim (k := k) (o := 1) (by omega) (by omega)
      have i2 : (k : Int) < 31 := by omega
      by_cases hge : ((ways k 1 : Nat) : Int) ≤ (m : Int)
      · rw [seek_go (by omega) (by omega)] at hse
        by_cases hk30 : (k : Int) < 30
        · generalize ways k 1 = W at *
          have Hse := Lib.hid hse
          clear hse
          go_wp2_with fail
          go_roundw
          case rel => exact ⟨m - W, k + 1, by go_num, by go_num, by simp, by omega, by omega, Hse.out⟩
          case measure => simp [intOf] <;> omega
        · obtain rfl : k = 30 := by omega
          have HV2 := Lib.hid (show V = .tuple #[.string ⟨#[]⟩, .bool false] by
            rw [← HV.out]
            have : unrankL N = none := by
              unfold unrankL
              rw [hse]
              rfl
            rw [this])
          generalize ways 30 1 = W at *
          clear hse HV
          go_wp2_with fail
          go_ret2
          exact ⟨by rw [HV2.out]; rfl, hb2⟩
      · have hlt : (m : Int) < ((ways k 1 : Nat) : Int) := by omega
        rw [seek_stop (Or.inr (by omega))] at hse
        have hlt3 : m < ways k 1 := by omega
        generalize hWW : ways k 1 = W at *
        have hV2 : V = .tuple #[.string (strB (unr k 1 m)), .bool true] := by
          rw [← HV.out]; simp only [unrankL, hse]; rw [if_pos (by omega)]
        have HV2 := Lib.hid hV2
        rw [← hWW] at hlt3
        have hword := unr_word k 1 m hlt3
        have Hlt := Lib.hid hlt3
        have Hlen := Lib.hid hword.1.len
        clear hse hlt3 hge hWW hV2 HV hword
        generalize hL : unr k 1 m = L at *
        have HL := Lib.hid hL
        have hsz2 := hb2.size
        have hdec : decide (W ≤ m) = false := by simp; omega
        have hdeci : decide ((W : Int) ≤ (m : Int)) = false := by simp; omega
        clear hL hlt
        go_wp2_with fail
        clear hdec hdeci
        go_loopw [0, 5, 6, 7] (fun n1 o1 k1 v wr2 => ∃ (m1 k2 o2 : Nat) (l : List UInt8) (ao : Option Addr) (cap : Nat), n1 = .int .i64 m1 ∧ k1 = .int .i64 k2 ∧ o1 = .int .i64 o2 ∧ v = .slice ao l.length cap ∧ m1 ≤ m ∧ k2 + o2 ≤ 31 ∧ k2 ≤ 30 ∧ l.length + k2 + k2 + o2 ≤ 61 ∧ m1 < ways k2 o2 ∧ L = l ++ unr k2 o2 m1 ∧ BytesAt 5 wr2 w.heap.size ao cap l ∧ Below w.heap.size w wr2 ∧ w.heap.size ≤ wr2.heap.size ∧ OutR wr2 w.heap.size g 32 gs (wv 31 1)) (fun _ o1 k1 _ _ => 2 * (intOf k1).toNat + (intOf o1).toNat)
        case atStart => exact ⟨m, k, 1, [], none, 0, rfl, rfl, rfl, rfl, Nat.le_refl _, by omega, by omega, by simp; omega, Hlt.out, HL.out.symm, bytesAt_nil _ _ _, hb2, hsz2, ht⟩
        case round =>
          obtain ⟨m1, k2, o2, l, ao, cap, rfl, rfl, rfl, rfl, hm1, hko, hk2, hl, hlt4, hLL, hby, hbel, hBw, ht2⟩ := hrel
          clear ht hb2
          cases o2 with
          | zero =>
            have hk0 : k2 = 0 := by
              cases k2 with
              | zero => rfl
              | succ k => rw [ways_k0] at hlt4; omega
            subst hk0
            have hLl : L = l := by rw [hLL]; simp [unr]
            subst hLl
            have hne : L ≠ [] := by
              intro e
              have := Hlen.out
              rw [e] at this
              simp at this
            have hconv := run_back (P := Try.prog) hby 112 9 Try.underlying112 Try.underlying5 Try.underlying9 hne
            clear hLL hlt4 hne hby
            go_wp2_with fail
            go_ret2
            exact ⟨by rw [HV2.out]; rfl, hbel⟩
          | succ o =>
            obtain ⟨c1, c2⟩ := ht2.num o k2 (by omega) hk2
            unfold BytesAt at hby
            by_cases hz : m1 < ways k2 o
            · rw [unr_lt hz] at hLL
              have hzi : (m1 : Int) < ((ways k2 o : Nat) : Int) := by omega
              have hzw : ((ways k2 o : Nat) : Int) ≤ 2305843009213693952 := by have := ways_lim (k := k2) (o := o) (by omega) (by omega); omega
              have Hst := Lib.hid (And.intro hLL hz)
              have Hko := Lib.hid hl
              have hll : l.length ≤ 61 := by omega
              generalize ways k2 o = W at c2 hzi hzw
              have i5 : (o : Int) ≤ 31 := by omega
              have i6 : (k2 : Int) ≤ 30 := by omega
              clear hLL hlt4 hz
              go_wp2_with (at_builtin; refine wpList_append_lies _ rfl _ _ 112 rfl w.heap.size 5 i1 _ 1 1 Try.underlying112 hj hy0 hy1 hy2 rfl (by decide) (.slice ao l.length cap) l.length (Lib.byteCells l) rfl (hby.alloc _) ⟨wr.heap.size, 0, none⟩ 1 1 [.int .u8 48] rfl rfl (news1 (heap_alloc_new _ _)) (by simp; rfl) (by decide) (by unfold maxLen; omega) (by omega) (by simp; omega) (wr.heap.size + 1) (by simp) ?_)
              intro g2 cap2 w3 hown2 hgrow hat hlt2
              have hbel3 := (hbel.alloc hBw (.cells #[.int .u8 48] 5 (0, 0))).grown hgrow (by simp; omega) (fun k hk => (World.ownsRow.lt hby k hk).1)
              have hby3 : BytesAt 5 w3 w.heap.size (some ⟨g2, 0, none⟩) cap2 (l ++ [48]) := BytesAt.push rfl hown2
              have ht3 := ht2.keepTy (w' := w3) (fun ty h1 => (KeepTy.alloc ty wr (.cells #[.int .u8 48] 5 (0, 0))).trans (KeepTy.grown h1 (World.ownsRow.alloc hby (.cells #[.int .u8 48] 5 (0, 0))) hgrow))
              have HH := Lib.hid (And.intro hby3 (And.intro hbel3 ht3))
              have hB3 : w.heap.size ≤ w3.heap.size := hbel3.size
              clear hown2 hgrow hat hlt2 hby hbel hbel3 hby3 ht3 ht2
              go_wp2_with fail
              go_roundw
              case rel => exact ⟨m1, k2, o, l ++ [48], _, _, rfl, rfl, by go_num, by simp, hm1, by omega, hk2, by have := Hko.out; simp; omega, Hst.out.2, by rw [Hst.out.1]; simp, HH.out.1, HH.out.2.1, hB3, HH.out.2.2⟩
              case measure => simp [intOf] <;> omega
            · obtain ⟨k3, rfl⟩ : ∃ k3, k2 = k3 + 1 := by
                cases k2 with
                | zero => rw [ways_zero] at hlt4 hz; omega
                | succ k3 => exact ⟨k3, rfl⟩
              rw [unr_ge (by omega)] at hLL
              rw [ways_ko] at hlt4
              have hzi : ((ways (k3 + 1) o : Nat) : Int) ≤ (m1 : Int) := by omega
              have hlt5 : m1 - ways (k3 + 1) o < ways k3 (o + 2) := by omega
              have Hst := Lib.hid (And.intro hLL hlt5)
              have Hko := Lib.hid hl
              have hll : l.length ≤ 61 := by omega
              generalize ways (k3 + 1) o = W at *
              have i5 : (o : Int) ≤ 31 := by omega
              have i6 : (k3 : Int) ≤ 30 := by omega
              clear hLL hlt4 hlt5 hz
              go_wp2_with (at_builtin; refine wpList_append_lies _ rfl _ _ 112 rfl w.heap.size 5 i1 _ 1 1 Try.underlying112 hj hy0 hy1 hy2 rfl (by decide) (.slice ao l.length cap) l.length (Lib.byteCells l) rfl (hby.alloc _) ⟨wr.heap.size, 0, none⟩ 1 1 [.int .u8 49] rfl rfl (news1 (heap_alloc_new _ _)) (by simp; rfl) (by decide) (by unfold maxLen; omega) (by omega) (by simp; omega) (wr.heap.size + 1) (by simp) ?_)
              intro g2 cap2 w3 hown2 hgrow hat hlt2
              have hbel3 := (hbel.alloc hBw (.cells #[.int .u8 49] 5 (0, 0))).grown hgrow (by simp; omega) (fun k hk => (World.ownsRow.lt hby k hk).1)
              have hby3 : BytesAt 5 w3 w.heap.size (some ⟨g2, 0, none⟩) cap2 (l ++ [49]) := BytesAt.push rfl hown2
              have ht3 := ht2.keepTy (w' := w3) (fun ty h1 => (KeepTy.alloc ty wr (.cells #[.int .u8 49] 5 (0, 0))).trans (KeepTy.grown h1 (World.ownsRow.alloc hby (.cells #[.int .u8 49] 5 (0, 0))) hgrow))
              have HH := Lib.hid (And.intro hby3 (And.intro hbel3 ht3))
              have hB3 : w.heap.size ≤ w3.heap.size := hbel3.size
              clear hown2 hgrow hat hlt2 hby hbel hbel3 hby3 ht3 ht2
              go_wp2_with fail
              go_roundw
              case rel => exact ⟨m1 - W, k3, o + 2, l ++ [49], _, _, by go_num, by go_num, by go_num, by simp, by omega, by omega, by omega, by have := Hko.out; simp; omega, Hst.out.2, by rw [Hst.out.1]; simp, HH.out.1, HH.out.2.1, hB3, HH.out.2.2⟩
              case measure => simp [intOf] <;> omega

end Go.Proofs.Ythmnbciefpkpmaa
