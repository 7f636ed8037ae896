/- The walks of order.least and order.Next. -/
import Derived.Test.YthmnbciefpkpmaaUnrank
import Derived.BigQuiet
namespace Go.Proofs.Ythmnbciefpkpmaa
open Go.RowKit

/-- the first word with some pairs and so many trees -/
def leastL (k o : Nat) : List UInt8 := List.replicate (o - 1) 48 ++ ((List.replicate k [49, 48]).flatten ++ [48])

theorem leastL_len (k o : Nat) (h : 1 ≤ o) : (leastL k o).length = 2 * k + o := by
  simp [leastL]; omega

theorem ba_eq {x : ByteArray} {l : List UInt8} (h : x.data.toList = l) : x = ⟨l.toArray⟩ := by
  subst h; rfl

theorem repeat_zero : ∀ n, Lib.repeatL [(48 : UInt8)] n = List.replicate n 48
  | 0 => rfl
  | n + 1 => by rw [Lib.repeatL, repeat_zero n]; rfl

theorem repeat_pair : ∀ n, Lib.repeatL [(49 : UInt8), 48] n = (List.replicate n [49, 48]).flatten
  | 0 => rfl
  | n + 1 => by rw [Lib.repeatL, repeat_pair n]; rfl

theorem size_one (c : UInt8) : (⟨#[c]⟩ : ByteArray).size = 1 := rfl
theorem size_two (c d : UInt8) : (⟨#[c, d]⟩ : ByteArray).size = 2 := rfl

theorem repeat1_c (n : Nat) (w : World) (h : n ≤ 10000000) : Calls Try.prog 136 #[.string ⟨#[48]⟩, .int .i64 n] w fun e w' => e = .returned (.string ⟨(List.replicate n (48 : UInt8)).toArray⟩) ∧ Below w.heap.size w w' := by
  rw [← repeat_zero]
  refine Try.strings_Repeat ⟨#[48]⟩ n w (by omega) ?_
  rw [size_one]; omega

theorem repeat2_c (n : Nat) (w : World) (h : n ≤ 10000000) : Calls Try.prog 136 #[.string ⟨#[49, 48]⟩, .int .i64 n] w fun e w' => e = .returned (.string ⟨((List.replicate n [(49 : UInt8), 48]).flatten).toArray⟩) ∧ Below w.heap.size w w' := by
  rw [← repeat_pair]
  refine Try.strings_Repeat ⟨#[49, 48]⟩ n w (by omega) ?_
  rw [size_two]; omega

set_option maxRecDepth 100000 in
theorem least_c (k o : Nat) (w : World) (ho : 1 ≤ o) (hk : k ≤ 10000000) (ho2 : o ≤ 10000000) :
    Calls Try.prog 96 #[.int .i64 k, .int .i64 o] w fun e w' => e = .returned (.string ⟨(leastL k o).toArray⟩) ∧ Below w.heap.size w w' := by
  obtain ⟨o, rfl⟩ : ∃ o', o = o' + 1 := ⟨o - 1, by omega⟩
  simp only [leastL, Nat.add_sub_cancel]
  generalize hR : (⟨(List.replicate o 48 ++ ((List.replicate k [49, 48]).flatten ++ [48]) : List UInt8).toArray⟩ : ByteArray) = R
  have HR := Lib.hid hR
  clear hR
  have h1 := fun w => repeat1_c o w (by omega)
  have h2 := fun w => repeat2_c k w (by omega)
  have hl1 : (⟨(List.replicate o (48 : UInt8)).toArray⟩ : ByteArray).data.toList = List.replicate o 48 := by simp
  have hl2 : (⟨((List.replicate k [(49 : UInt8), 48]).flatten).toArray⟩ : ByteArray).data.toList = (List.replicate k [49, 48]).flatten := by simp
  generalize (⟨(List.replicate o (48 : UInt8)).toArray⟩ : ByteArray) = u1 at *
  generalize (⟨((List.replicate k [(49 : UInt8), 48]).flatten).toArray⟩ : ByteArray) = u2 at *
  have hz1 : u1.size = o := by rw [← ByteArray.size_data, ← Array.length_toList, hl1]; simp
  have hz2 : u2.size = 2 * k := by rw [← ByteArray.size_data, ← Array.length_toList, hl2]; simp; omega
  have hz3 : u1.size ≤ 20000000 := by omega
  have hz4 : u2.size ≤ 20000000 := by omega
  clear hz1 hz2
  have H1 := Lib.hid h1
  have H2 := Lib.hid h2
  have Hl := Lib.hid (And.intro hl1 hl2)
  clear h1 h2 hl1 hl2
  go_enter Try.func96, Try.ntmps96
  go_wp2_with fail
  refine (H1.out _).mono ?_
  rintro e w1 ⟨rfl, hb1⟩
  go_wp2_with fail
  refine (H2.out _).mono ?_
  rintro e w2 ⟨rfl, hb2⟩
  go_wp2_with fail
  go_ret
  refine ⟨?_, hb1.trans (hb2.mono hb1.size)⟩
  have h := ba_eq (x := u1 ++ u2 ++ ⟨#[48]⟩) (l := List.replicate o 48 ++ ((List.replicate k [49, 48]).flatten ++ [48])) (by
    simp only [ByteArray.data_append, Array.toList_append, Hl.out.1, Hl.out.2, List.append_assoc])
  rw [← HR.out, ← h]; rfl

/-- the word that follows, read from the right -/
def nxt (l : List UInt8) : Nat → Nat → Nat → List UInt8
  | 0, _, _ => leastL (l.length / 2 + 1) 1
  | i + 1, p, o => if l.getD i 0 = 49 then nxt l i (p + 1) (o - 1) else if 0 < p then l.take i ++ 49 :: leastL (p - 1) (o + 2) else nxt l i p (o + 1)

/-- what Next returns -/
def nextV (s : ByteArray) : Value := if validB s then
    (if (nxt s.data.toList s.size 0 0).length ≤ 2000000 then .tuple #[.string ⟨(nxt s.data.toList s.size 0 0).toArray⟩, .int .i64 0] else .tuple #[.string ⟨#[]⟩, .int .i64 3])
  else .tuple #[.string ⟨#[]⟩, .int .i64 1]

theorem Word.next {c : UInt8} {l : List UInt8} {k o : Nat} (h : Word (c :: l) k o) : ∃ k' o', Word l k' o' := by
  cases h with
  | zero h => exact ⟨_, _, h⟩
  | one h => exact ⟨_, _, h⟩

theorem Word.drop {l : List UInt8} {k o : Nat} (h : Word l k o) : ∀ i, ∃ k' o', Word (l.drop i) k' o'
  | 0 => ⟨k, o, by simpa using h⟩
  | i + 1 => by
    obtain ⟨k', o', h'⟩ := Word.drop h i
    by_cases hi : i < l.length
    · rw [List.drop_eq_getElem_cons hi] at h'
      exact h'.next
    · rw [List.drop_of_length_le (by omega)] at h' ⊢
      exact ⟨k', o', h'⟩

theorem Word.ones {l : List UInt8} {k o : Nat} (h : Word l k o) : Go.Proofs.Ythmnbciefpkpmaa.ones l = k := by
  induction h with
  | done => rfl
  | zero h ih => simpa [Go.Proofs.Ythmnbciefpkpmaa.ones] using ih
  | one h ih => simpa [Go.Proofs.Ythmnbciefpkpmaa.ones] using ih

theorem Word.same {l : List UInt8} {k o k' o' : Nat} (h : Word l k o) (h' : Word l k' o') : k' = k ∧ o' = o := by
  have h1 := h.ones; have h2 := h'.ones; have h3 := h.len; have h4 := h'.len
  omega

theorem Word.back {s : ByteArray} {i p o : Nat} (hi : i < s.size) {K O : Nat} (hs : Word s.data.toList K O) (h : Word (s.data.toList.drop (i + 1)) p o) :
    (((s[i]'hi).toNat : Int) = 49 ∧ 2 ≤ o ∧ Word (s.data.toList.drop i) (p + 1) (o - 1)) ∨ (¬ ((s[i]'hi).toNat : Int) = 49 ∧ ((s[i]'hi).toNat : Int) = 48 ∧ Word (s.data.toList.drop i) p (o + 1)) := by
  obtain ⟨k', o', h'⟩ := hs.drop i
  rw [byte_drop s i hi] at h' ⊢
  generalize s[i]'hi = c at *
  cases h' with
  | zero h2 =>
    obtain ⟨rfl, rfl⟩ := h.same h2
    exact Or.inr ⟨by decide, rfl, .zero h2⟩
  | one h2 =>
    obtain ⟨rfl, rfl⟩ := h.same h2
    exact Or.inl ⟨rfl, by omega, .one h2⟩

theorem getD_byte (s : ByteArray) (i : Nat) (h : i < s.size) : s.data.toList.getD i 0 = s[i]'h := by
  have : i < s.data.toList.length := by simpa using h
  rw [List.getD_eq_getElem?_getD, List.getElem?_eq_getElem this]
  simp [ByteArray.getElem_eq_getElem_data]

set_option maxRecDepth 100000 in
set_option maxHeartbeats 1000000 in
theorem next_c (s : ByteArray) (w : World) (hs : s.size ≤ 140737488351232) :
    Calls Try.prog 31 #[.string s] w fun e w' => e = .returned (nextV s) ∧ Below w.heap.size w w' := by
  unfold nextV
  have hv := valid_c s w hs
  by_cases h : validB s = true
  · rw [if_pos h]
    rw [h] at hv
    obtain ⟨hwd, hsz⟩ := validB_word h
    have hmax : s.size ≤ 2000000 := by
      simp only [validB, Bool.and_eq_true, decide_eq_true_eq] at h; exact h.1
    generalize hK : s.size / 2 = K at *
    have hq : ((s.size : Int)) / 2 = (K : Int) := by omega
    have hpos : 1 ≤ s.size := by omega
    have hKle : K ≤ 1000000 := by omega
    have hlen : s.data.toList.length = s.size := by simp
    generalize hN : nxt s.data.toList s.size 0 0 = N
    generalize hV : (if N.length ≤ 2000000 then Value.tuple #[.string ⟨N.toArray⟩, .int .i64 0] else .tuple #[.string ⟨#[]⟩, .int .i64 3]) = V
    have HN := Lib.hid hN
    have HV := Lib.hid hV
    have Hsz := Lib.hid (And.intro hsz (And.intro hK hwd))
    have Hlen := Lib.hid hlen
    have Hv := Lib.hid hv
    clear hN hV hsz hv h hK hs hwd hlen
    go_enter Try.func31, Try.ntmps31
    go_wp2_with (go_at_call 94; refine Hv.out.mono ?_; rintro e w1 ⟨rfl, hb1⟩)
    go_loopw [4, 5, 6] (fun p1 o1 i1 wr => ∃ (i p o : Nat), i1 = .int .i64 ((i : Int) - 1) ∧ p1 = .int .i64 p ∧ o1 = .int .i64 o ∧ i ≤ s.size ∧ Word (s.data.toList.drop i) p o ∧ N = nxt s.data.toList i p o ∧ wr = w1) (fun _ _ i1 _ => (intOf i1 + 1).toNat)
    case atStart => exact ⟨s.size, 0, 0, rfl, rfl, rfl, Nat.le_refl _, by rw [List.drop_of_length_le (by rw [Hlen.out]; omega)]; exact .done, HN.out.symm, rfl⟩
    case round =>
      obtain ⟨i, p, o, rfl, rfl, rfl, hi, hw, hn, rfl⟩ := hrel
      cases i with
      | zero =>
        have hle := Hlen.out
        simp only [nxt] at hn
        rw [hle, Hsz.out.2.1] at hn
        have hnl : N.length = 2 * (K + 1) + 1 := by rw [hn, leastL_len _ _ (Nat.le_refl 1)]
        have hcall := fun w => least_c (K + 1) 1 w (Nat.le_refl 1) (by omega) (by omega)
        rw [← hn] at hcall
        have hsz : (⟨N.toArray⟩ : ByteArray).size = N.length := by simp [ByteArray.size]
        have hV := HV.out
        have hsz2 : (⟨N.toArray⟩ : ByteArray).size ≤ 10000000 := by omega
        by_cases hbig : N.length ≤ 2000000
        · rw [if_pos hbig] at hV
          have hbi : ((⟨N.toArray⟩ : ByteArray).size : Int) ≤ 2000000 := by omega
          have HV2 := Lib.hid hV
          have Hcall := Lib.hid hcall
          generalize (⟨N.toArray⟩ : ByteArray) = U at *
          clear hV hcall hnl hn hsz hle hbig HV HN hw
          go_wp2_with fail
          refine (Hcall.out _).mono ?_
          rintro e w3 ⟨rfl, hb3⟩
          go_wp2_with fail
          go_ret2
          exact ⟨by rw [← HV2.out]; rfl, hb1.trans (hb3.mono hb1.size)⟩
        · rw [if_neg hbig] at hV
          have hbi : (2000000 : Int) < ((⟨N.toArray⟩ : ByteArray).size : Int) := by omega
          have HV2 := Lib.hid hV
          have Hcall := Lib.hid hcall
          generalize (⟨N.toArray⟩ : ByteArray) = U at *
          clear hV hcall hnl hn hsz hle hbig HV HN hw
          go_wp2_with fail
          refine (Hcall.out _).mono ?_
          rintro e w3 ⟨rfl, hb3⟩
          go_wp2_with fail
          go_ret2
          exact ⟨by rw [← HV2.out]; rfl, hb1.trans (hb3.mono hb1.size)⟩
      | succ i =>
        have hi2 : i < s.size := by omega
        have hwl := hw.len
        simp only [List.length_drop] at hwl
        rw [Hlen.out] at hwl
        have hpo : 2 * p + o ≤ 2000000 := by omega
        have hpo2 : 2 * p + o + i + 1 = s.size := by omega
        have Hpo2 := Lib.hid hpo2
        clear hwl hpo2
        simp only [nxt, getD_byte s i hi2] at hn
        rcases Word.back hi2 Hsz.out.2.2 hw with ⟨hc, ho, hw2⟩ | ⟨hc, hc0, hw2⟩
        · rw [if_pos (byte_eq _ 49 hc)] at hn
          have Hst := Lib.hid (And.intro hn hw2)
          clear hn hw hw2
          go_wp2_with fail
          go_roundw
          case rel => exact ⟨i, p + 1, o - 1, by go_num, by go_num, by go_num, by omega, Hst.out.2, Hst.out.1, by simp⟩
          case measure => simp [intOf] <;> omega
        · rw [if_neg (fun e => hc (by rw [e]; rfl))] at hn
          have hcb : (((s[i]'hi2).toNat : Int) == 49) = false := by simpa using hc
          cases p with
          | zero =>
            rw [if_neg (Nat.lt_irrefl 0)] at hn
            have Hst := Lib.hid (And.intro hn hw2)
            clear hn hw hw2 hc hc0
            go_wp2_with fail
            go_roundw
            case rel => exact ⟨i, 0, o + 1, by go_num, rfl, by go_num, by omega, Hst.out.2, Hst.out.1, by simp⟩
            case measure => simp [intOf] <;> omega
          | succ p =>
            rw [if_pos (Nat.succ_pos p), Nat.add_sub_cancel] at hn
            have hcall := fun w => least_c p (o + 2) w (by omega) (by omega) (by omega)
            rw [show ((o + 2 : Nat) : Int) = (o : Int) + 1 + 1 by omega] at hcall
            have hnl : N.length = s.size := by
              rw [hn, List.length_append, List.length_cons, leastL_len _ _ (by omega), List.length_take, Hlen.out]
              have := Hpo2.out
              omega
            have hV := HV.out
            rw [if_pos (by omega)] at hV
            have HV2 := Lib.hid (And.intro hV hn)
            have hul : (⟨(leastL p (o + 2)).toArray⟩ : ByteArray).data.toList = leastL p (o + 2) := by simp
            have huz : (⟨(leastL p (o + 2)).toArray⟩ : ByteArray).size ≤ 10000000 := by
              have : (⟨(leastL p (o + 2)).toArray⟩ : ByteArray).size = (leastL p (o + 2)).length := by simp [ByteArray.size]
              rw [this, leastL_len _ _ (by omega)]; omega
            generalize (⟨(leastL p (o + 2)).toArray⟩ : ByteArray) = U at *
            have Hul := Lib.hid hul
            have Hcall := Lib.hid hcall
            have hexz : (s.extract 0 i).size = i := by simp; omega
            have hex : (s.extract 0 i).data.toList = s.data.toList.take i := by
              rw [Lib.extract_data]; simp
            generalize hE : s.extract 0 i = E at *
            have HE := Lib.hid (And.intro hE hex)
            have hile : i ≤ s.size := by omega
            have hr1 : IntKind.i64.wrap (p : Int) = p := IntWalk.i64_in _ (by omega)
            have hr2 : IntKind.i64.wrap ((o : Int) + 1 + 1) = (o : Int) + 1 + 1 := IntWalk.i64_in _ (by omega)
            have hs1 : (9223372036854775807 < i + 1) = False := by simp; omega
            have hs2 : (9223372036854775807 < i + 1 + U.size) = False := by simp; omega
            clear hul hcall hV hn hnl hw hw2 hc hc0 HV HN hE hex
            go_wp2_with fail
            go_region_law (first | (go_simp; go_at_call 96; refine (Hcall.out _).mono ?_; rintro e w3 ⟨rfl, hb3⟩))
            all_goals (
              go_wp2_with fail
              go_ret2
              refine ⟨?_, hb1.drew.trans (hb3.mono hb1.size)⟩
              have h := ba_eq (x := s.extract 0 i ++ ⟨#[49]⟩ ++ U) (l := N) (by
                rw [HV2.out.2, HE.out.1]
                simp only [ByteArray.data_append, Array.toList_append, Hul.out, HE.out.2, List.append_assoc]
                rfl)
              rw [← HV2.out.1, ← h]; rfl)
  · rw [if_neg h]
    have hf : validB s = false := by simpa using h
    rw [hf] at hv
    have Hv := Lib.hid hv
    clear hv h hf
    go_enter Try.func31, Try.ntmps31
    go_wp2_with (go_at_call 94; refine Hv.out.mono ?_; rintro e w1 ⟨rfl, hb1⟩)
    go_ret2
    exact ⟨rfl, hb1⟩

end Go.Proofs.Ythmnbciefpkpmaa
