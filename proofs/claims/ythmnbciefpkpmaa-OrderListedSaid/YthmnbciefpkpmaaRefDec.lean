/- The walks of Head, Tail, Value and Items of the first reference, and of pair of the second. -/
import Derived.Test.YthmnbciefpkpmaaRef2
import Derived.Test.YthmnbciefpkpmaaDecode
import Derived.Test.YthmnbciefpkpmaaCodePut
namespace Go.Proofs.Ythmnbciefpkpmaa
open Go.RowKit

theorem end1_node (a b : T) (w : World) (h : (T.node a b).size ≤ 2000000) :
    Calls Try.prog 91 #[.string (strB (enc (.node a b))), .int .i64 1] w fun e w' => e = .returned (.int .i64 (1 + (a.size : Int))) ∧ w = w' := by
  have hz : (strB (enc (.node a b))).size = 1 + a.size + b.size := by rw [strB_size, enc_len]; rfl
  simp only [T.size] at h
  have hc := end1_c (strB (enc (.node a b))) 1 w (by omega) (by omega)
  have hsc : scan ((strB (enc (.node a b))).data.toList.drop 1) 1 = some a.size := by
    rw [strB_data]
    show scan (enc a ++ enc b) (0 + 1) = _
    rw [scan_enc, scan_zero]
    simp
  rw [hsc] at hc
  exact hc

set_option maxRecDepth 100000 in
theorem head1_c (t : T) (w : World) (h : t.size ≤ 2000000) :
    Calls Try.prog 141 #[.string (strB (enc t))] w fun e w' => e = .returned (.string (strB (enc t.hd))) ∧ w = w' := by
  cases t with
  | nil =>
    have h1 : ((strB (enc .nil)).toList == [48]) = true := by rw [toList_strB]; rfl
    go_enter Try.func141, Try.ntmps141
    go_wp2_with fail
    go_ret
    exact ⟨rfl, rfl⟩
  | node a b =>
    have hc := end1_node a b w h
    have hz : (strB (enc (.node a b))).size = 1 + a.size + b.size := by rw [strB_size, enc_len]; rfl
    simp only [T.size] at h
    have h1 : ((strB (enc (.node a b))).toList == [48]) = false := by
      rw [toList_strB]
      obtain ⟨c, r, h⟩ := enc_hd a
      simp [enc, h]
    have e1 : (strB (enc (.node a b))).extract 1 (1 + a.size) = strB (enc a) := by
      rw [strB_extract]
      congr 1
      show ((enc a ++ enc b).drop 0).take _ = _
      have := enc_len a
      simp [← this]
    simp only [T.hd]
    generalize strB (enc (.node a b)) = u at *
    have Hc := Lib.hid hc
    have He := Lib.hid e1
    have hz1 : (1 : Int) + a.size ≤ u.size := by omega
    have hz2 : (1 : Int) + a.size ≤ 2000000 := by omega
    have hz3 : (0 : Int) ≤ 1 + a.size := by omega
    have hz4 : (1 : Int) ≤ 1 + a.size := by omega
    have hz5 : (1 + (a.size : Int)).toNat = 1 + a.size := by omega
    clear hc e1 hz
    go_enter Try.func141, Try.ntmps141
    go_wp2_with (go_at_call 91; refine (Hc.out).mono ?_; rintro e w' ⟨rfl, rfl⟩)
    go_ret
    exact ⟨by rw [← He.out]; rfl, rfl⟩

set_option maxRecDepth 100000 in
theorem tail1_c (t : T) (w : World) (h : t.size ≤ 2000000) :
    Calls Try.prog 139 #[.string (strB (enc t))] w fun e w' => e = .returned (.string (strB (enc t.tl))) ∧ w = w' := by
  cases t with
  | nil =>
    have h1 : ((strB (enc .nil)).toList == [48]) = true := by rw [toList_strB]; rfl
    go_enter Try.func139, Try.ntmps139
    go_wp2_with fail
    go_ret
    exact ⟨rfl, rfl⟩
  | node a b =>
    have hc := end1_node a b w h
    have hz : (strB (enc (.node a b))).size = 1 + a.size + b.size := by rw [strB_size, enc_len]; rfl
    simp only [T.size] at h
    have h1 : ((strB (enc (.node a b))).toList == [48]) = false := by
      rw [toList_strB]
      obtain ⟨c, r, h⟩ := enc_hd a
      simp [enc, h]
    have e2 : (strB (enc (.node a b))).extract (1 + a.size) (strB (enc (.node a b))).size = strB (enc b) := by
      rw [strB_extract, hz]
      congr 1
      have e3 : (enc (.node a b)).drop (1 + a.size) = enc b := by
        have := enc_len a
        show (49 :: (enc a ++ enc b)).drop (1 + a.size) = _
        rw [Nat.add_comm, List.drop_succ_cons, ← this]
        simp
      rw [e3, List.take_of_length_le]
      have := enc_len b
      omega
    simp only [T.tl]
    generalize strB (enc (.node a b)) = u at *
    have Hc := Lib.hid hc
    have He := Lib.hid e2
    have hz1 : (1 : Int) + a.size ≤ u.size := by omega
    have hz2 : (1 : Int) + a.size ≤ 2000000 := by omega
    have hz3 : (0 : Int) ≤ 1 + a.size := by omega
    have hz5 : (1 + (a.size : Int)).toNat = 1 + a.size := by omega
    clear hc e2 hz
    go_enter Try.func139, Try.ntmps139
    go_wp2_with (go_at_call 91; refine (Hc.out).mono ?_; rintro e w' ⟨rfl, rfl⟩)
    go_ret
    exact ⟨by rw [← He.out]; rfl, rfl⟩

/-- the number that a tree is, or -1 -/
def optI (o : Option Nat) : Int := match o with | some n => n | none => -1
def numI (t : T) : Int := optI (numOf t)

theorem drop_hd {s : ByteArray} {p : Nat} {c : UInt8} {r : List UInt8} (h : s.data.toList.drop p = c :: r) : ∃ hp : p < s.size, s[p]'hp = c ∧ s.data.toList.drop (p + 1) = r := by
  have hp : p < s.size := by
    rcases Nat.lt_or_ge p s.size with h1 | h1
    · exact h1
    · rw [List.drop_of_length_le (by simpa using h1)] at h; cases h
  rw [byte_drop s p hp] at h
  simp only [List.cons.injEq] at h
  exact ⟨hp, h.1, h.2⟩

set_option maxRecDepth 100000 in
theorem value1_c (t : T) (w : World) (h : t.size ≤ 2000000) :
    Calls Try.prog 140 #[.string (strB (enc t))] w fun e w' => e = .returned (.int .i64 (numI t)) ∧ w = w' := by
  have hz : (strB (enc t)).size = t.size := by rw [strB_size, enc_len]
  have hd0 : (strB (enc t)).data.toList.drop 0 = enc t := by simp
  obtain ⟨K, hK⟩ : ∃ K, t.size = 2 * K + 1 := by
    obtain ⟨k, hw⟩ := enc_word t
    have := hw.len
    rw [enc_len] at this
    exact ⟨k, this⟩
  have hn0 : numI t = optI ((numOf t).map (· + 0)) := by
    unfold numI; cases numOf t <;> rfl
  generalize hV : numI t = V at *
  generalize strB (enc t) = s at *
  have HN := Lib.hid (And.intro hn0 hd0)
  have i5 : (s.size : Int) ≤ 2000000 := by omega
  clear hn0 hd0 hV
  go_enter Try.func140, Try.ntmps140
  go_wp2_with fail
  go_loop [3] (fun i => ∃ (p j : Nat) (u : T), i = .int .i64 (p : Int) ∧ s.data.toList.drop p = enc u ∧ p + u.size = t.size ∧ V = optI ((numOf u).map (· + j)) ∧ p = 2 * j) (fun i => t.size - (intOf i).toNat)
  case atStart => exact ⟨0, 0, t, rfl, HN.out.2, by omega, HN.out.1, rfl⟩
  case round =>
    obtain ⟨p, j, u, rfl, hd, hsz, hv, hpj⟩ := hrel
    cases u with
    | nil =>
      simp only [T.size] at hsz
      have hv2 : V = (K : Int) := by
        rw [hv]
        simp [numOf, optI]
        omega
      have Hv := Lib.hid hv2
      have i1 : (s.size : Int) - 1 ≤ (p : Int) := by omega
      have i2 : (s.size : Int) / 2 = (K : Int) := by omega
      clear hv hv2 hd hsz hK hz hpj
      go_wp2_with fail
      go_ret
      exact ⟨by rw [Hv.out]; rfl, rfl⟩
    | node a0 b =>
      cases a0 with
      | nil =>
        obtain ⟨h1, c1, hd1⟩ := drop_hd (c := 49) (r := 48 :: enc b) hd
        obtain ⟨h2, c2, hd2⟩ := drop_hd (c := 48) (r := enc b) hd1
        have hbp := b.size_pos
        simp only [T.size] at hsz
        have hv2 : V = optI ((numOf b).map (· + (j + 1))) := by
          rw [hv]
          simp only [numOf]
          cases numOf b with
          | none => rfl
          | some m => simp [optI]; omega
        have Hv := Lib.hid (And.intro hv2 (And.intro hd2 hpj))
        have i1 : (p : Int) < (s.size : Int) - 1 := by omega
        have i3 : (p : Int) < (s.size : Int) := by omega
        have i4 : (p : Int) + 1 < (s.size : Int) := by omega
        have e1 : (((s[p]'h1).toNat : Int) != 49) = false := by rw [c1]; rfl
        have e2 : (((s[p + 1]'h2).toNat : Int) != 48) = false := by rw [c2]; rfl
        have hsz2 : p + 2 + b.size = t.size := by omega
        have Hsz := Lib.hid hsz2
        clear hv hv2 hd hd1 hd2 c1 c2 hpj hsz hsz2 hK
        go_wp2_with fail
        go_round
        case rel => exact ⟨p + 2, j + 1, b, by go_num, Hv.out.2.1, Hsz.out, Hv.out.1, by have := Hv.out.2.2; omega⟩
        case measure => simp [intOf]; omega
      | node a a2 =>
        obtain ⟨h1, c1, hd1⟩ := drop_hd (c := 49) (r := 49 :: (enc a ++ enc a2) ++ enc b) hd
        obtain ⟨h2, c2, _⟩ := drop_hd (c := 49) (r := (enc a ++ enc a2) ++ enc b) hd1
        have hbp := b.size_pos
        simp only [T.size] at hsz
        have hv2 : V = -1 := by rw [hv]; rfl
        have Hv := Lib.hid hv2
        have i1 : (p : Int) < (s.size : Int) - 1 := by omega
        have i3 : (p : Int) < (s.size : Int) := by omega
        have i4 : (p : Int) + 1 < (s.size : Int) := by omega
        have e1 : (((s[p]'h1).toNat : Int) != 49) = false := by rw [c1]; rfl
        have e2 : (((s[p + 1]'h2).toNat : Int) != 48) = true := by rw [c2]; rfl
        clear hv hv2 hd hd1 c1 c2 hpj hsz hK
        go_wp2_with fail
        go_ret
        exact ⟨by rw [Hv.out]; rfl, rfl⟩

def Items1Post (w : World) (t : T) (e : Ending) (w' : World) : Prop := (∃ ao cap, e = .returned (.slice ao t.items.length cap) ∧ StrsAt w' w.heap.size ao cap t.items) ∧ Below w.heap.size w w'

set_option maxRecDepth 100000 in
set_option maxHeartbeats 1000000 in
theorem items1_c (t : T) (w : World) (h : t.size ≤ 2000000) : Calls Try.prog 138 #[.string (strB (enc t))] w (Items1Post w t) := by
  have hz : (strB (enc t)).size = t.size := by rw [strB_size, enc_len]
  have hd0 : (strB (enc t)).data.toList.drop 0 = enc t := by simp
  obtain ⟨i0, hi, hz0, hz1, hz2⟩ := info_parts strInfo
  generalize strB (enc t) = s at *
  have HN := Lib.hid hd0
  have i5 : (s.size : Int) ≤ 2000000 := by omega
  clear hd0
  go_enter Try.func138, Try.ntmps138
  go_wp2_with fail
  go_loopw [3, 4] (fun v i wr => ∃ (p : Nat) (u : T) (ts : List T) (ao : Option Addr) (cap : Nat), v = .slice ao ts.length cap ∧ i = .int .i64 (p : Int) ∧ s.data.toList.drop p = enc u ∧ p + u.size = t.size ∧ ts ++ u.items = t.items ∧ StrsAt wr w.heap.size ao cap ts ∧ Below w.heap.size w wr ∧ w.heap.size ≤ wr.heap.size) (fun _ i _ => t.size - (intOf i).toNat)
  case atStart => exact ⟨0, t, [], none, 0, rfl, rfl, HN.out, by omega, rfl, World.ownsRow_nil _ _ _ _, Below.refl _ _, Nat.le_refl _⟩
  case round =>
    obtain ⟨p, u, ts, ao, cap, rfl, rfl, hd, hsz, hts, hst, hbel, hBw⟩ := hrel
    cases u with
    | nil =>
      obtain ⟨h1, c1, _⟩ := drop_hd (c := 48) (r := []) hd
      have i3 : (p : Int) < (s.size : Int) := by omega
      have e1 : (((s[p]'h1).toNat : Int) == 49) = false := by rw [c1]; rfl
      have hts2 : ts = t.items := by simpa [T.items] using hts
      have Hts := Lib.hid hts2
      clear hts hts2 hd c1 hz hsz
      go_wp2_with fail
      go_ret
      exact ⟨⟨ao, cap, by rw [← Hts.out]; rfl, by rw [← Hts.out]; exact hst⟩, hbel⟩
    | node a b =>
      obtain ⟨h1, c1, hd1⟩ := drop_hd (c := 49) (r := enc a ++ enc b) hd
      simp only [T.size] at hsz
      have hbp := b.size_pos
      have i3 : (p : Int) < (s.size : Int) := by omega
      have e1 : (((s[p]'h1).toNat : Int) == 49) = true := by rw [c1]; rfl
      have hend := fun w => end1_c s (p + 1) w (by omega) (by omega)
      have hsc : scan (s.data.toList.drop (p + 1)) 1 = some a.size := by
        rw [hd1]
        show scan (enc a ++ enc b) (0 + 1) = _
        rw [scan_enc, scan_zero]
        simp
      rw [hsc] at hend
      have hend' : ∀ w, Calls Try.prog 91 #[.string s, .int .i64 ((p : Int) + 1)] w fun e w' => e = .returned (.int .i64 ((p : Int) + 1 + a.size)) ∧ w = w' := hend
      have hex : s.extract (p + 1) (p + 1 + a.size) = strB (enc a) := by
        apply ba_eq
        rw [Lib.extract_data, ← List.drop_take] 
        rw [List.drop_take, hd1, show p + 1 + a.size - (p + 1) = a.size by omega]
        have := enc_len a
        rw [← this]; simp
      have hd2 : s.data.toList.drop (p + 1 + a.size) = enc b := by
        rw [← List.drop_drop, hd1]
        have := enc_len a
        rw [← this]; simp
      have hts2 : (ts ++ [a]) ++ b.items = t.items := by rw [← hts]; simp [T.items]
      have hlen : ts.length ≤ 2000000 := by
        have h1 := congrArg List.length hts
        have h2 := spine_size t
        rw [List.length_append, items_len t] at h1
        omega
      have hcons : ts.map (fun t => Value.string (strB (enc t))) ++ [Value.string (strB (enc a))] = (ts ++ [a]).map (fun t => Value.string (strB (enc t))) := by simp
      have hsz2 : p + 1 + a.size + b.size = t.size := by omega
      unfold StrsAt at hst
      generalize hxs : ts.map (fun t => Value.string (strB (enc t))) = xs at *
      generalize strB (enc a) = sa at *
      have Hend := Lib.hid hend'
      have Hex := Lib.hid hex
      have HS := Lib.hid (And.intro hd2 (And.intro hts2 (And.intro hsz2 hcons)))
      have j1 : (p : Int) + 1 ≤ (p : Int) + 1 + a.size := by omega
      have j2 : (p : Int) + 1 + a.size ≤ (s.size : Int) := by omega
      have j3 : ((p : Int) + 1).toNat = p + 1 := by omega
      have j4 : ((p : Int) + 1 + a.size).toNat = p + 1 + a.size := by omega
      have hex2 := Hex.out
      clear hend hend' hsc hex hd2 hts2 hcons hsz2 hd hd1 hts hsz hz c1 hxs
      go_wp2_with (first | (go_at_call 91; refine (Hend.out _).mono ?_; rintro e w' ⟨rfl, rfl⟩) | (at_builtin; refine wpList_append_lies _ rfl _ _ 148 rfl w.heap.size 9 i0 _ 1 16 Try.underlying148 hi hz0 hz1 hz2 rfl (by decide) (.slice ao ts.length cap) ts.length xs rfl (hst.alloc _) ⟨wr.heap.size, 0, none⟩ 1 1 [.string sa] rfl rfl (news1 (heap_alloc_new _ _)) (by simp; rfl) (by decide) (by unfold maxLen; omega) (by omega) (by simp; omega) (wr.heap.size + 1) (by simp) ?_))
      intro g2 cap2 w2 hown2 hgrow hat hlt2
      have hbel2 := (hbel.alloc hBw (.cells #[.string sa] 9 (0, 0))).grown hgrow (by simp; omega) (fun k hk => (hst.lt k hk).1)
      have hB2 := hbel2.size
      have HH := Lib.hid (And.intro hown2 hbel2)
      clear hown2 hgrow hat hlt2 hst hbel hbel2 hex2
      go_wp2_with fail
      go_roundw
      case rel => exact ⟨p + 1 + a.size, b, ts ++ [a], some ⟨g2, 0, none⟩, cap2, by simp, by go_num, HS.out.1, HS.out.2.2.1, HS.out.2.1, by unfold StrsAt; rw [← HS.out.2.2.2, List.length_append]; exact HH.out.1, HH.out.2, hB2⟩
      case measure => have := HS.out.2.2.1; simp [intOf]; omega

set_option maxRecDepth 100000 in
theorem pair2_c (a b : ByteArray) (w : World) (h : a.size + b.size ≤ 1000000000) :
    Calls Try.prog 149 #[.string a, .string b] w fun e w' => e = .returned (.string (⟨#[49]⟩ ++ a ++ b)) ∧ w = w' := by
  have n1 := nosum (n := 1 + a.size) (by omega)
  have n2 := nosum (n := 1 + a.size + b.size) (by omega)
  go_enter Try.func149, Try.ntmps149
  go_wp2_with fail
  go_ret
  exact ⟨rfl, rfl⟩

end Go.Proofs.Ythmnbciefpkpmaa
