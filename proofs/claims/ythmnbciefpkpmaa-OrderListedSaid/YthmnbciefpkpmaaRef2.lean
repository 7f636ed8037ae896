/- The walks of Register, Right, Trees and Valid of the second reference, and of Small of the seventh. -/
import Derived.Test.YthmnbciefpkpmaaRef1
namespace Go.Proofs.Ythmnbciefpkpmaa
open Go.RowKit

theorem register2_c (n : Int) (w : World) : Calls Try.prog 142 #[.int .i64 n] w fun e w' => e = .returned (.bool (regB n)) ∧ w = w' := by
  unfold regB
  by_cases h0 : 0 ≤ n
  · by_cases h1 : n < 32
    · go_enter Try.func142, Try.ntmps142
      go_wp2
      go_ret
      exact ⟨by simp [h0, h1], rfl⟩
    · go_enter Try.func142, Try.ntmps142
      go_wp2
      go_ret
      exact ⟨by simp; omega, rfl⟩
  · go_enter Try.func142, Try.ntmps142
    go_wp2
    go_ret
    exact ⟨by simp; omega, rfl⟩

theorem reg2_is (n : Int) (v : Bool) (hv : regB n = v) (w : World) : Calls Try.prog 142 #[.int .i64 n] w fun e w' => e = .returned (.bool v) ∧ w = w' := by
  subst hv; exact register2_c n w

set_option maxRecDepth 100000 in
set_option maxHeartbeats 2000000 in
theorem right2_c (op a b c : Int) (s : ByteArray) (i n : Nat) (w : World) (hs : s.size ≤ 140737488351232) (hi : i ≤ 1000000) (hn : n ≤ 1000000) (hin : i < n) :
    Calls Try.prog 101 #[.agg #[.int .i64 op, .int .i64 a, .int .i64 b, .int .i64 c, .string s], .int .i64 i, .int .i64 n] w fun e w' =>
      e = .returned (.bool (insOk 2000000 i n ⟨op, a, b, c, s⟩)) ∧ Below w.heap.size w w' := by
  have hv := validB_treeOf s
  have Hv := Lib.hid hv
  have hbel := (Below.refl w.heap.size w).alloc (Nat.le_refl _) (.cells #[.int .i64 op, .int .i64 a, .int .i64 b, .int .i64 c, .string s] 57 (0, 0))
  have Hbel := Lib.hid hbel
  clear hv hbel
  have hra := fun w => register2_c a w
  have hrb := fun w => register2_c b w
  have hrc := fun w => register2_c c w
  have hvs := fun w => valid1_c s w hs
  cases ha : regB a with
  | false =>
    rw [ha] at hra
    have HE := Lib.hid (show insOk 2000000 i n ⟨op, a, b, c, s⟩ = false by simp [insOk, ha])
    have Hra := Lib.hid hra
    clear hra hrb hrc hvs ha
    go_enter Try.func101, Try.ntmps101
    go_wp2_with (go_at_call 142; refine (Hra.out _).mono ?_; rintro e w' ⟨rfl, rfl⟩)
    go_ret
    exact ⟨by rw [HE.out]; rfl, Hbel.out⟩
  | true =>
    rw [ha] at hra
    have Hra := Lib.hid hra
    have Ha := Lib.hid ha
    clear hra ha
    by_cases h0 : op = 0
    · subst h0
      by_cases hc : c = 0
      · subst hc
        by_cases hb : b = 0
        · subst hb
          have HE := Lib.hid (show insOk 2000000 i n ⟨0, a, 0, 0, s⟩ = validB s by simp [insOk, Ha.out, Hv.out])
          generalize validB s = vs at *
          have Hvs := Lib.hid hvs
          clear hrb hrc hvs
          go_enter Try.func101, Try.ntmps101
          go_wp2_with (first | (go_at_call 142; refine (Hra.out _).mono ?_; rintro e w' ⟨rfl, rfl⟩) | (go_at_call 26; refine (Hvs.out _).mono ?_; rintro e w2 ⟨rfl, rfl⟩))
          go_ret
          exact ⟨by rw [HE.out]; rfl, Hbel.out⟩
        · have HE := Lib.hid (show insOk 2000000 i n ⟨0, a, b, 0, s⟩ = false by simp [insOk, hb])
          have hbb : (b == 0) = false := by simpa using hb
          clear hrb hrc hvs hb
          go_enter Try.func101, Try.ntmps101
          go_wp2_with (go_at_call 142; refine (Hra.out _).mono ?_; rintro e w' ⟨rfl, rfl⟩)
          go_ret
          exact ⟨by rw [HE.out]; rfl, Hbel.out⟩
      · have HE := Lib.hid (show insOk 2000000 i n ⟨0, a, b, c, s⟩ = false by simp [insOk, hc])
        have hcb : (c != 0) = true := by simpa using hc
        clear hrb hrc hvs hc
        go_enter Try.func101, Try.ntmps101
        go_wp2_with (go_at_call 142; refine (Hra.out _).mono ?_; rintro e w' ⟨rfl, rfl⟩)
        go_ret
        exact ⟨by rw [HE.out]; rfl, Hbel.out⟩
    · have h0b : (op != 0) = true := by simpa using h0
      have h0c : (op == 0) = false := by simpa using h0
      by_cases ht : s.toList = []
      · have htz : s.size = 0 := size_of_toList ht
        by_cases h2 : op = 2
        · subst h2
          cases hb : regB b with
          | false =>
            have HE := Lib.hid (show insOk 2000000 i n ⟨2, a, b, c, s⟩ = false by simp [insOk, hb])
            clear htz h0 hrb hrc hvs
            have Hb := Lib.hid hb
            clear hb
            go_enter Try.func101, Try.ntmps101
            go_wp2_with fail
            refine (Hra.out _).mono ?_
            rintro e w' ⟨rfl, rfl⟩
            go_wp2_with fail
            refine (reg2_is b _ Hb.out _).mono ?_
            rintro e w' ⟨rfl, rfl⟩
            go_wp2_with fail
            go_ret
            exact ⟨by rw [HE.out]; rfl, Hbel.out⟩
          | true =>
            have HE := Lib.hid (show insOk 2000000 i n ⟨2, a, b, c, s⟩ = regB c by simp [insOk, hb, htz, Ha.out])
            generalize hC : regB c = C at *
            have HC := Lib.hid hC
            clear htz h0 hrb hrc hvs hC
            have Hb := Lib.hid hb
            clear hb
            go_enter Try.func101, Try.ntmps101
            go_wp2_with fail
            refine (Hra.out _).mono ?_
            rintro e w' ⟨rfl, rfl⟩
            go_wp2_with fail
            refine (reg2_is b _ Hb.out _).mono ?_
            rintro e w' ⟨rfl, rfl⟩
            go_wp2_with fail
            refine (reg2_is c _ HC.out _).mono ?_
            rintro e w' ⟨rfl, rfl⟩
            go_wp2_with fail
            go_ret
            exact ⟨by rw [HE.out]; rfl, Hbel.out⟩
        · have h2b : (op != 2) = true := by simpa using h2
          have h2c : (op == 2) = false := by simpa using h2
          by_cases hc : c = 0
          · subst hc
            by_cases h134 : op = 1 ∨ op = 3 ∨ op = 4
            · have HE := Lib.hid (show insOk 2000000 i n ⟨op, a, b, 0, s⟩ = regB b by simp [insOk, htz, h0, h134, Ha.out])
              generalize hB : regB b = B at *
              have HB := Lib.hid hB
              clear htz h0 h2 hrb hrc hvs hB
              rcases h134 with rfl | rfl | rfl
              all_goals
                go_enter Try.func101, Try.ntmps101
                go_wp2_with fail
                refine (Hra.out _).mono ?_
                rintro e w' ⟨rfl, rfl⟩
                go_wp2_with fail
                refine (reg2_is b _ HB.out _).mono ?_
                rintro e w' ⟨rfl, rfl⟩
                go_wp2_with fail
                go_ret
                exact ⟨by rw [HE.out]; rfl, Hbel.out⟩
            · have h1c : (op == 1) = false := by simp; omega
              have h3c : (op == 3) = false := by simp; omega
              have h4c : (op == 4) = false := by simp; omega
              by_cases h5 : op = 5
              · subst h5
                have HE := Lib.hid (show insOk 2000000 i n ⟨5, a, b, 0, s⟩ = (decide (-(i : Int) ≤ b) && decide (b ≤ (n : Int) - i)) by simp [insOk, htz, Ha.out])
                clear htz h0 h2 h134 hrb hrc hvs
                by_cases hb1 : -(i : Int) ≤ b
                · by_cases hb2 : b ≤ (n : Int) - i
                  · go_enter Try.func101, Try.ntmps101
                    go_wp2_with (go_at_call 142; refine (Hra.out _).mono ?_; rintro e w' ⟨rfl, rfl⟩)
                    go_ret
                    exact ⟨by rw [HE.out]; simp [hb1, hb2], Hbel.out⟩
                  · have hb3 : decide (b ≤ (n : Int) - i) = false := by simpa using hb2
                    go_enter Try.func101, Try.ntmps101
                    go_wp2_with (go_at_call 142; refine (Hra.out _).mono ?_; rintro e w' ⟨rfl, rfl⟩)
                    go_ret
                    exact ⟨by rw [HE.out, hb3]; simp, Hbel.out⟩
                · have hb3 : decide (-(i : Int) ≤ b) = false := by simpa using hb1
                  go_enter Try.func101, Try.ntmps101
                  go_wp2_with (go_at_call 142; refine (Hra.out _).mono ?_; rintro e w' ⟨rfl, rfl⟩)
                  go_ret
                  exact ⟨by rw [HE.out, hb3]; simp, Hbel.out⟩
              · have h5c : (op == 5) = false := by simpa using h5
                have HE := Lib.hid (show insOk 2000000 i n ⟨op, a, b, 0, s⟩ = false by simp [insOk, h0, h2, h134, h5])
                clear htz h0 h2 h134 h5 hrb hrc hvs
                go_enter Try.func101, Try.ntmps101
                go_wp2_with (go_at_call 142; refine (Hra.out _).mono ?_; rintro e w' ⟨rfl, rfl⟩)
                go_ret
                exact ⟨by rw [HE.out]; rfl, Hbel.out⟩
          · have hcb : (c != 0) = true := by simpa using hc
            have HE := Lib.hid (show insOk 2000000 i n ⟨op, a, b, c, s⟩ = false by simp [insOk, h2, hc])
            clear htz h0 h2 hc hrb hrc hvs
            go_enter Try.func101, Try.ntmps101
            go_wp2_with (go_at_call 142; refine (Hra.out _).mono ?_; rintro e w' ⟨rfl, rfl⟩)
            go_ret
            exact ⟨by rw [HE.out]; rfl, Hbel.out⟩
      · have HE := Lib.hid (show insOk 2000000 i n ⟨op, a, b, c, s⟩ = false by
          have : ¬ s.size = 0 := fun e => ht (toList_of_size e)
          simp [insOk, h0, this])
        clear h0 hrb hrc hvs
        go_enter Try.func101, Try.ntmps101
        go_wp2_with (go_at_call 142; refine (Hra.out _).mono ?_; rintro e w' ⟨rfl, rfl⟩)
        go_ret
        exact ⟨by rw [HE.out]; rfl, Hbel.out⟩

/-- the characters of the trees of a program -/
def treesN : List Ins → Nat
  | [] => 0
  | x :: l => x.tree.size + treesN l

def allOk (chars n : Int) : Nat → List Ins → Bool
  | _, [] => true
  | i, x :: l => insOk chars i n x && allOk chars n (i + 1) l

theorem goodTo_eq (chars n : Int) : ∀ (l : List Ins) (i : Nat) (all : Int), all ≤ chars → goodTo chars n i all l = (decide (all + treesN l ≤ chars) && allOk chars n i l)
  | [], i, all, h => by simp [goodTo, treesN, allOk, h]
  | x :: l, i, all, h => by
    have ht : ((treesN (x :: l) : Nat) : Int) = (x.tree.size : Int) + (treesN l : Int) := by simp [treesN]
    rw [ht, Bool.eq_iff_iff]
    simp only [goodTo, allOk, Bool.and_eq_true, decide_eq_true_eq]
    constructor
    · rintro ⟨⟨h1, h2⟩, h3⟩
      rw [goodTo_eq chars n l (i + 1) _ h1] at h3
      simp only [Bool.and_eq_true, decide_eq_true_eq] at h3
      exact ⟨by omega, h2, h3.2⟩
    · rintro ⟨h1, h2, h3⟩
      have h4 : all + (x.tree.size : Int) ≤ chars := by omega
      refine ⟨⟨h4, h2⟩, ?_⟩
      rw [goodTo_eq chars n l (i + 1) _ h4]
      simp only [Bool.and_eq_true, decide_eq_true_eq]
      exact ⟨by omega, h3⟩

theorem goodP_eq (most chars : Int) (l : List Ins) (h : 0 ≤ chars) : goodP most chars l = (decide ((l.length : Int) ≤ most) && (decide ((treesN l : Int) ≤ chars) && allOk chars l.length 0 l)) := by
  unfold goodP
  rw [goodTo_eq _ _ _ _ _ h, Int.zero_add]

theorem treesN_app : ∀ (l m : List Ins), treesN (l ++ m) = treesN l + treesN m
  | [], m => by simp [treesN]
  | x :: l, m => by simp [treesN, treesN_app l m]; omega

theorem take_ins (l : List Ins) (k : Nat) (h : k < l.length) : l.take (k + 1) = l.take k ++ [l.getD k default] := by
  rw [List.take_succ_eq_append_getElem h]; simp [h]

theorem treesN_take (l : List Ins) (k : Nat) (h : k < l.length) : treesN (l.take (k + 1)) = treesN (l.take k) + (l.getD k default).tree.size := by
  rw [take_ins l k h, treesN_app]; simp [treesN]

theorem treesN_bound (M : Nat) : ∀ l : List Ins, (∀ x ∈ l, x.tree.size ≤ M) → treesN l ≤ l.length * M
  | [], _ => by simp [treesN]
  | x :: l, h => by
    have h1 := treesN_bound M l (fun y hy => h y (List.mem_cons_of_mem _ hy))
    have h2 := h x (List.mem_cons_self ..)
    simp only [treesN, List.length_cons, Nat.add_mul]
    omega

set_option maxRecDepth 100000 in
theorem trees_any (ao : Option Addr) (b o cap : Nat) (l : List Ins) (w : World) (hp : ProgIn w ao b o l) (hlen : l.length ≤ 140737488351232) :
    Calls Try.prog 100 #[.slice ao l.length cap] w fun e w' => (∃ v : Int, e = .returned (.int .i64 v)) ∧ w = w' := by
  go_enter Try.func100, Try.ntmps100
  go_wp2_with fail
  go_loop [3, 4] (fun n i => ∃ (k : Nat) (m : Int), k ≤ l.length ∧ i = .int .i64 k ∧ n = .int .i64 m) (fun _ i => l.length - (intOf i).toNat)
  case atStart => exact ⟨0, 0, Nat.zero_le _, rfl, rfl⟩
  case round =>
    obtain ⟨k, m, hk, rfl, rfl⟩ := hrel
    by_cases hlt : k < l.length
    · have hi := (hp.ins k hlt).c4
      obtain rfl := hp.at_ (by intro e; subst e; simp at hlt)
      have i2 : (k : Int) < (l.length : Int) := by omega
      go_wp2_with fail
      go_round
      case rel => exact ⟨k + 1, _, by omega, by go_num, rfl⟩
      case measure => simp [intOf]; omega
    · have i2 : (l.length : Int) ≤ (k : Int) := by omega
      go_wp2_with fail
      go_ret
      exact ⟨⟨_, rfl⟩, rfl⟩

set_option maxRecDepth 100000 in
theorem trees_c (ao : Option Addr) (b o cap : Nat) (l : List Ins) (w : World) (hp : ProgIn w ao b o l) (hlen : l.length ≤ 4000) :
    Calls Try.prog 100 #[.slice ao l.length cap] w fun e w' => e = .returned (.int .i64 (treesN l)) ∧ w = w' := by
  go_enter Try.func100, Try.ntmps100
  go_wp2_with fail
  go_loop [3, 4] (fun n i => ∃ (k : Nat), k ≤ l.length ∧ i = .int .i64 k ∧ n = .int .i64 (treesN (l.take k))) (fun _ i => l.length - (intOf i).toNat)
  case atStart => exact ⟨0, Nat.zero_le _, rfl, rfl⟩
  case round =>
    obtain ⟨k, hk, rfl, rfl⟩ := hrel
    by_cases hlt : k < l.length
    · have hi := (hp.ins k hlt).c4
      have hsz := hp.sz _ (getD_mem l k hlt)
      have hb := treesN_bound 140737488351232 (l.take k) (fun x hx => hp.sz x (List.mem_of_mem_take hx))
      have hb2 : treesN (l.take k) ≤ 562949953404928000 := by
        have : (l.take k).length ≤ 4000 := Nat.le_trans (List.length_take_le _ _) (by omega)
        refine Nat.le_trans hb (Nat.le_trans (Nat.mul_le_mul_right _ this) (by decide))
      have ht := treesN_take l k hlt
      obtain rfl := hp.at_ (by intro e; subst e; simp at hlt)
      have i2 : (k : Int) < (l.length : Int) := by omega
      generalize l.getD k default = x at *
      generalize treesN (l.take k) = N at *
      have Ht := Lib.hid ht
      clear ht hb
      go_wp2_with fail
      go_round
      case rel => exact ⟨k + 1, by omega, by go_num, by rw [Ht.out]; go_num⟩
      case measure => simp [intOf]; omega
    · obtain rfl : k = l.length := by omega
      have ht : treesN (l.take l.length) = treesN l := by rw [List.take_length]
      rw [ht]
      generalize hN : treesN l = N at *
      have HN := Lib.hid hN
      clear ht hN hlt
      go_wp2_with fail
      go_ret
      exact ⟨by rw [HN.out]; rfl, rfl⟩

theorem allOk_drop (chars n : Int) (l : List Ins) (k : Nat) (h : k < l.length) : allOk chars n k (l.drop k) = (insOk chars k n (l.getD k default) && allOk chars n (k + 1) (l.drop (k + 1))) := by
  rw [drop_ins l k h]; rfl

set_option maxRecDepth 100000 in
set_option maxHeartbeats 1000000 in
theorem valid2_c (ao : Option Addr) (b o cap : Nat) (l : List Ins) (w : World) (hp : ProgIn w ao b o l) :
    Calls Try.prog 40 #[.slice ao l.length cap] w fun e w' => e = .returned (.bool (goodP 4000 2000000 l)) ∧ Below w.heap.size w w' := by
  rw [goodP_eq _ _ _ (by decide)]
  by_cases hm : (4000 : Int) < (l.length : Int)
  · have hd : decide ((l.length : Int) ≤ 4000) = false := by simp; omega
    rw [hd, Bool.false_and]
    clear hd
    go_enter Try.func40, Try.ntmps40
    go_wp2_with fail
    go_ret
    exact ⟨rfl, Below.refl _ _⟩
  · have hd : decide ((l.length : Int) ≤ 4000) = true := by simp; omega
    rw [hd, Bool.true_and]
    have hm2 : (l.length : Int) ≤ 4000 := by omega
    have ht := fun w hp => trees_c ao b o cap l w hp (by omega)
    clear hd hm
    by_cases hbig : (2000000 : Int) < (treesN l : Int)
    · have hd : decide ((treesN l : Int) ≤ 2000000) = false := by simp; omega
      rw [hd, Bool.false_and]
      generalize treesN l = N at *
      have Ht := Lib.hid (ht w hp)
      clear hd ht
      go_enter Try.func40, Try.ntmps40
      go_wp2_with (go_at_call 100; refine (Ht.out).mono ?_; rintro e w' ⟨rfl, rfl⟩)
      go_ret
      exact ⟨rfl, Below.refl _ _⟩
    · have hd : decide ((treesN l : Int) ≤ 2000000) = true := by simp; omega
      rw [hd, Bool.true_and]
      have hbig2 : (treesN l : Int) ≤ 2000000 := by omega
      generalize treesN l = N at *
      have Ht := Lib.hid (ht w hp)
      generalize hg : allOk 2000000 l.length 0 l = G
      have Hg := Lib.hid hg
      clear hd ht hbig hg
      go_enter Try.func40, Try.ntmps40
      go_wp2_with (go_at_call 100; refine (Ht.out).mono ?_; rintro e w' ⟨rfl, rfl⟩)
      go_loopw [3] (fun i wr => ∃ (k : Nat), k ≤ l.length ∧ i = .int .i64 k ∧ allOk 2000000 l.length k (l.drop k) = G ∧ Below w.heap.size w wr) (fun i _ => l.length - (intOf i).toNat)
      case atStart => exact ⟨0, by omega, rfl, Hg.out, Below.refl _ _⟩
      case round =>
        obtain ⟨k, hk, rfl, hgt, hbel⟩ := hrel
        have Hg := Lib.hid hgt
        clear hgt
        by_cases hlt : k < l.length
        · have hi := (hp.ins k hlt).below hbel (hp.lt (by intro e; subst e; simp at hlt))
          have hsz := hp.sz _ (getD_mem l k hlt)
          obtain rfl := hp.at_ (by intro e; subst e; simp at hlt)
          have hdrop := allOk_drop 2000000 l.length l k hlt
          rw [Hg.out] at hdrop
          generalize l.getD k default = x at *
          have HI := Lib.hid hdrop
          obtain ⟨c0, c1, c2, c3, c4⟩ := hi
          have hsize := hbel.size
          have i2 : (k : Int) < (l.length : Int) := by omega
          have hc := fun w => right2_c x.op x.a x.b x.c x.tree k l.length w hsz (by omega) (by omega) hlt
          clear hdrop hp Hg
          cases hok : insOk 2000000 k l.length x with
          | false =>
            have hG := Lib.hid (show G = false by rw [HI.out, hok]; rfl)
            have hc' : ∀ w, Calls Try.prog 101 #[.agg #[.int .i64 x.op, .int .i64 x.a, .int .i64 x.b, .int .i64 x.c, .string x.tree], .int .i64 k, .int .i64 l.length] w fun e w' => e = .returned (.bool false) ∧ Below w.heap.size w w' := fun w => by have := hc w; rw [show (⟨x.op, x.a, x.b, x.c, x.tree⟩ : Ins) = x from rfl, hok] at this; exact this
            have Hc := Lib.hid hc'
            clear hc hc' hok
            go_wp2_with fail
            refine (Hc.out _).mono ?_
            rintro e w2 ⟨rfl, hb2⟩
            go_wp2_with fail
            go_ret
            exact ⟨by rw [hG.out]; rfl, hbel.trans (hb2.mono hsize)⟩
          | true =>
            have hc' : ∀ w, Calls Try.prog 101 #[.agg #[.int .i64 x.op, .int .i64 x.a, .int .i64 x.b, .int .i64 x.c, .string x.tree], .int .i64 k, .int .i64 l.length] w fun e w' => e = .returned (.bool true) ∧ Below w.heap.size w w' := fun w => by have := hc w; rw [show (⟨x.op, x.a, x.b, x.c, x.tree⟩ : Ins) = x from rfl, hok] at this; exact this
            have hG2 := HI.out
            rw [hok, Bool.true_and] at hG2
            have HG2 := Lib.hid hG2
            have Hc := Lib.hid hc'
            clear hc hc' hok hG2
            go_wp2_with fail
            refine (Hc.out _).mono ?_
            rintro e w2 ⟨rfl, hb2⟩
            go_wp2_with fail
            go_roundw
            case rel => exact ⟨k + 1, by omega, by go_num, HG2.out.symm, hbel.trans (hb2.mono hsize)⟩
            case measure => simp [intOf]; omega
        · have hG := Lib.hid (show G = true by rw [← Hg.out, List.drop_of_length_le (by omega)]; rfl)
          have i2 : (l.length : Int) ≤ (k : Int) := by omega
          go_wp2_with fail
          go_ret
          exact ⟨by rw [hG.out]; rfl, hbel⟩

end Go.Proofs.Ythmnbciefpkpmaa
