/- Contracts of the package code: reg, right, Valid. -/
import Derived.Test.YthmnbciefpkpmaaTree
import Derived.Test.YthmnbciefpkpmaaIns
namespace Go.Proofs.Ythmnbciefpkpmaa
open Go.RowKit

theorem reg_c (b n cap : Nat) (zs : List Int) (w : World) (hc : ∀ i, i < zs.length → w.cell? ⟨b, i, none⟩ = some (.int .i64 (zs.getD i 0))) (hn : n = zs.length) (hl : zs.length ≤ 100) :
    Calls Try.prog 184 #[.slice (some ⟨b, 0, none⟩) n cap] w fun e w' => e = .returned (.bool (zs.all regB)) ∧ w = w' := by
  subst hn
  generalize hR : zs.all regB = R
  have HR := Lib.hid hR
  have Hc := Lib.hid hc
  clear hR hc
  go_enter Try.func184, Try.ntmps184
  go_wp2_with fail
  go_loop [7] (fun i => ∃ k : Nat, k ≤ zs.length ∧ i = .int .i64 k ∧ (zs.drop k).all regB = R) (fun i => zs.length - (intOf i).toNat)
  case atStart => exact ⟨0, by omega, rfl, HR.out⟩
  case round =>
    obtain ⟨k, hk, rfl, hr⟩ := hrel
    have Hr := Lib.hid hr
    clear hr
    by_cases hlt : k < zs.length
    · have hcell := Hc.out k hlt
      have hd : zs.drop k = zs.getD k 0 :: zs.drop (k + 1) := by rw [List.drop_eq_getElem_cons hlt]; simp [hlt]
      have hr := Hr.out
      rw [hd, List.all_cons] at hr
      generalize zs.getD k 0 = z at *
      have Hr2 := Lib.hid hr
      clear hd hr Hr
      by_cases h0 : z < 0
      · have HRf := Lib.hid (show R = false by rw [← Hr2.out]; simp [regB]; omega)
        go_wp2_with fail
        go_ret
        exact ⟨by rw [HRf.out]; rfl, rfl⟩
      · by_cases h1 : z < 32
        · have Hz := Lib.hid (show regB z = true by simp [regB]; omega)
          go_wp2_with fail
          go_round
          case rel => exact ⟨k + 1, by omega, by go_num, by have := Hr2.out; rw [Hz.out] at this; simpa using this⟩
          case measure => simp [intOf]; omega
        · have HRf := Lib.hid (show R = false by rw [← Hr2.out]; simp [regB]; omega)
          go_wp2_with fail
          go_ret
          exact ⟨by rw [HRf.out]; rfl, rfl⟩
    · have HRt := Lib.hid (show R = true by rw [← Hr.out, List.drop_of_length_le (by omega)]; rfl)
      go_wp2_with fail
      go_ret
      exact ⟨by rw [HRt.out]; rfl, rfl⟩

theorem reg1_c (b cap : Nat) (x : Int) (w : World) (h0 : w.cell? ⟨b, 0, none⟩ = some (.int .i64 x)) :
    Calls Try.prog 184 #[.slice (some ⟨b, 0, none⟩) 1 cap] w fun e w' => e = .returned (.bool (regB x)) ∧ w = w' := by
  have := reg_c b 1 cap [x] w (fun i hi => by match i, hi with | 0, _ => exact h0) rfl (by simp)
  simpa using this

theorem reg2_c (b cap : Nat) (x y : Int) (w : World) (h0 : w.cell? ⟨b, 0, none⟩ = some (.int .i64 x)) (h1 : w.cell? ⟨b, 1, none⟩ = some (.int .i64 y)) :
    Calls Try.prog 184 #[.slice (some ⟨b, 0, none⟩) 2 cap] w fun e w' => e = .returned (.bool (regB x && regB y)) ∧ w = w' := by
  have := reg_c b 2 cap [x, y] w (fun i hi => by match i, hi with | 0, _ => exact h0 | 1, _ => exact h1) rfl (by simp)
  simpa using this

theorem reg3_c (b cap : Nat) (x y z : Int) (w : World) (h0 : w.cell? ⟨b, 0, none⟩ = some (.int .i64 x)) (h1 : w.cell? ⟨b, 1, none⟩ = some (.int .i64 y)) (h2 : w.cell? ⟨b, 2, none⟩ = some (.int .i64 z)) :
    Calls Try.prog 184 #[.slice (some ⟨b, 0, none⟩) 3 cap] w fun e w' => e = .returned (.bool (regB x && (regB y && regB z))) ∧ w = w' := by
  have := reg_c b 3 cap [x, y, z] w (fun i hi => by match i, hi with | 0, _ => exact h0 | 1, _ => exact h1 | 2, _ => exact h2) rfl (by simp)
  simpa using this

set_option maxRecDepth 100000 in
set_option maxHeartbeats 2000000 in
theorem right_c (op a b c : Int) (s : ByteArray) (i n : Nat) (w : World) (hs : s.size ≤ 140737488351232) (hi : i ≤ 1000000) (hn : n ≤ 1000000) (hin : i < n) :
    Calls Try.prog 144 #[.agg #[.int .i64 op, .int .i64 a, .int .i64 b, .int .i64 c, .string s], .int .i64 i, .int .i64 n] w fun e w' =>
      e = .returned (.bool (insOk 2000000 i n ⟨op, a, b, c, s⟩)) ∧ Below w.heap.size w w' := by
  have hv := validB_treeOf s
  have Hv := Lib.hid hv
  clear hv
  by_cases h0 : op = 0
  · subst h0
    by_cases hc : c = 0
    · subst hc
      cases ha : regB a with
      | false =>
        have HE := Lib.hid (show insOk 2000000 i n ⟨0, a, b, 0, s⟩ = false by simp [insOk, ha])
        go_enter Try.func144, Try.ntmps144
        go_wp2_with (first | (go_at_call 184; refine (reg1_c _ _ a _ (by simp [go_sem]) ).mono ?_; rintro e w' ⟨rfl, rfl⟩))
        go_ret
        exact ⟨by rw [HE.out]; rfl, ((Below.refl _ _).alloc (Nat.le_refl _) _).alloc (by simp) _⟩
      | true =>
        by_cases hb : b = 0
        · subst hb
          have HE := Lib.hid (show insOk 2000000 i n ⟨0, a, 0, 0, s⟩ = validB s by simp [insOk, ha, Hv.out])
          go_enter Try.func144, Try.ntmps144
          go_wp2_with (first | (go_at_call 184; refine (reg1_c _ _ a _ (by simp [go_sem]) ).mono ?_; rintro e w' ⟨rfl, rfl⟩) | (go_at_call 94; refine (valid_c s _ hs).mono ?_; rintro e w2 ⟨rfl, hb2⟩))
          go_ret
          exact ⟨by rw [HE.out]; rfl, (((Below.refl _ _).alloc (Nat.le_refl _) _).alloc (by simp) _).trans (hb2.mono (by simp; omega))⟩
        · have HE := Lib.hid (show insOk 2000000 i n ⟨0, a, b, 0, s⟩ = false by simp [insOk, hb])
          have hbb : (b == 0) = false := by simpa using hb
          go_enter Try.func144, Try.ntmps144
          go_wp2_with (first | (go_at_call 184; refine (reg1_c _ _ a _ (by simp [go_sem]) ).mono ?_; rintro e w' ⟨rfl, rfl⟩))
          go_ret
          exact ⟨by rw [HE.out]; rfl, ((Below.refl _ _).alloc (Nat.le_refl _) _).alloc (by simp) _⟩
    · have HE := Lib.hid (show insOk 2000000 i n ⟨0, a, b, c, s⟩ = false by simp [insOk, hc])
      have hcb : (c != 0) = true := by simpa using hc
      go_enter Try.func144, Try.ntmps144
      go_wp2_with fail
      go_ret
      exact ⟨by rw [HE.out]; rfl, (Below.refl _ _).alloc (Nat.le_refl _) _⟩
  · have h0b : (op != 0) = true := by simpa using h0
    have h0c : (op == 0) = false := by simpa using h0
    by_cases ht : s.toList = []
    · have htz : s.size = 0 := size_of_toList ht
      by_cases h2 : op = 2
      · subst h2
        have HE := Lib.hid (show insOk 2000000 i n ⟨2, a, b, c, s⟩ = (regB a && (regB b && regB c)) by simp [insOk, htz])
        clear htz h0
        go_enter Try.func144, Try.ntmps144
        go_wp2_with (first | (go_at_call 184; refine (reg3_c _ _ a b c _ (by simp [go_sem]) (by simp [go_sem]) (by simp [go_sem])).mono ?_; rintro e w' ⟨rfl, rfl⟩))
        go_ret
        exact ⟨by rw [HE.out]; rfl, ((Below.refl _ _).alloc (Nat.le_refl _) _).alloc (by simp) _⟩
      · have h2b : (op != 2) = true := by simpa using h2
        have h2c : (op == 2) = false := by simpa using h2
        by_cases hc : c = 0
        · subst hc
          by_cases h134 : op = 1 ∨ op = 3 ∨ op = 4
          · have HE := Lib.hid (show insOk 2000000 i n ⟨op, a, b, 0, s⟩ = (regB a && regB b) by simp [insOk, htz, h0, h134])
            clear htz h0 h2
            rcases h134 with rfl | rfl | rfl
            all_goals
              go_enter Try.func144, Try.ntmps144
              go_wp2_with (first | (go_at_call 184; refine (reg2_c _ _ a b _ (by simp [go_sem]) (by simp [go_sem])).mono ?_; rintro e w' ⟨rfl, rfl⟩))
              go_ret
              exact ⟨by rw [HE.out]; rfl, ((Below.refl _ _).alloc (Nat.le_refl _) _).alloc (by simp) _⟩
          · have h1c : (op == 1) = false := by simp; omega
            have h3c : (op == 3) = false := by simp; omega
            have h4c : (op == 4) = false := by simp; omega
            by_cases h5 : op = 5
            · subst h5
              have HE := Lib.hid (show insOk 2000000 i n ⟨5, a, b, 0, s⟩ = (regB a && (decide (-(i : Int) ≤ b) && decide (b ≤ (n : Int) - i))) by simp [insOk, htz])
              clear htz h0 h2 h134
              cases ha : regB a with
              | false =>
                go_enter Try.func144, Try.ntmps144
                go_wp2_with (first | (go_at_call 184; refine (reg1_c _ _ a _ (by simp [go_sem]) ).mono ?_; rintro e w' ⟨rfl, rfl⟩))
                go_ret
                exact ⟨by rw [HE.out, ha]; rfl, ((Below.refl _ _).alloc (Nat.le_refl _) _).alloc (by simp) _⟩
              | true =>
                by_cases hb1 : -(i : Int) ≤ b
                · by_cases hb2 : b ≤ (n : Int) - i
                  · go_enter Try.func144, Try.ntmps144
                    go_wp2_with (first | (go_at_call 184; refine (reg1_c _ _ a _ (by simp [go_sem]) ).mono ?_; rintro e w' ⟨rfl, rfl⟩))
                    go_ret
                    exact ⟨by rw [HE.out, ha]; simp [hb1, hb2], ((Below.refl _ _).alloc (Nat.le_refl _) _).alloc (by simp) _⟩
                  · have hb3 : decide (b ≤ (n : Int) - i) = false := by simpa using hb2
                    go_enter Try.func144, Try.ntmps144
                    go_wp2_with (first | (go_at_call 184; refine (reg1_c _ _ a _ (by simp [go_sem]) ).mono ?_; rintro e w' ⟨rfl, rfl⟩))
                    go_ret
                    exact ⟨by rw [HE.out, ha, hb3]; simp, ((Below.refl _ _).alloc (Nat.le_refl _) _).alloc (by simp) _⟩
                · have hb3 : decide (-(i : Int) ≤ b) = false := by simpa using hb1
                  go_enter Try.func144, Try.ntmps144
                  go_wp2_with (first | (go_at_call 184; refine (reg1_c _ _ a _ (by simp [go_sem]) ).mono ?_; rintro e w' ⟨rfl, rfl⟩))
                  go_ret
                  exact ⟨by rw [HE.out, ha, hb3]; simp, ((Below.refl _ _).alloc (Nat.le_refl _) _).alloc (by simp) _⟩
            · have h5c : (op == 5) = false := by simpa using h5
              have HE := Lib.hid (show insOk 2000000 i n ⟨op, a, b, 0, s⟩ = false by simp [insOk, h0, h2, h134, h5])
              clear htz h0 h2 h134 h5
              go_enter Try.func144, Try.ntmps144
              go_wp2_with fail
              go_ret
              exact ⟨by rw [HE.out]; rfl, (Below.refl _ _).alloc (Nat.le_refl _) _⟩
        · have hcb : (c != 0) = true := by simpa using hc
          have HE := Lib.hid (show insOk 2000000 i n ⟨op, a, b, c, s⟩ = false by simp [insOk, h2, hc])
          clear htz h0 h2 hc
          go_enter Try.func144, Try.ntmps144
          go_wp2_with fail
          go_ret
          exact ⟨by rw [HE.out]; rfl, (Below.refl _ _).alloc (Nat.le_refl _) _⟩
    · have HE := Lib.hid (show insOk 2000000 i n ⟨op, a, b, c, s⟩ = false by
        have : ¬ s.size = 0 := fun e => ht (toList_of_size e)
        simp [insOk, h0, this])
      clear h0
      go_enter Try.func144, Try.ntmps144
      go_wp2_with fail
      go_ret
      exact ⟨by rw [HE.out]; rfl, (Below.refl _ _).alloc (Nat.le_refl _) _⟩

/-- a program is valid -/
abbrev validP (l : List Ins) : Bool := goodP 4000 2000000 l

set_option maxRecDepth 100000 in
set_option maxHeartbeats 2000000 in
theorem cvalid_c (ao : Option Addr) (b o cap : Nat) (l : List Ins) (w : World) (hp : ProgIn w ao b o l) (hlen : l.length ≤ 140737488351232) :
    Calls Try.prog 104 #[.slice ao l.length cap] w fun e w' => e = .returned (.bool (goodP 4000 2000000 l)) ∧ Below w.heap.size w w' := by
  unfold goodP
  by_cases hm : (4000 : Int) < (l.length : Int)
  · have hd : decide ((l.length : Int) ≤ 4000) = false := by simp; omega
    rw [hd]
    clear hd
    go_enter Try.func104, Try.ntmps104
    go_wp2_with fail
    go_ret
    exact ⟨rfl, Below.refl _ _⟩
  · have hd : decide ((l.length : Int) ≤ 4000) = true := by simp; omega
    rw [hd, Bool.true_and]
    clear hd
    generalize hg : goodTo 2000000 l.length 0 0 l = G
    have Hg := Lib.hid hg
    clear hg
    go_enter Try.func104, Try.ntmps104
    go_wp2_with fail
    go_loopw [3, 11] (fun n i wr => ∃ (k : Nat) (all : Int), k ≤ l.length ∧ i = .int .i64 k ∧ n = .int .i64 all ∧ 0 ≤ all ∧ all ≤ 2000000 ∧ goodTo 2000000 l.length k all (l.drop k) = G ∧ Below w.heap.size w wr) (fun _ i _ => l.length - (intOf i).toNat)
    case atStart => exact ⟨0, 0, by omega, rfl, rfl, by omega, by omega, Hg.out, Below.refl _ _⟩
    case round =>
      obtain ⟨k, all, hk, rfl, rfl, ha0, ha1, hgt, hbel⟩ := hrel
      have Hg := Lib.hid hgt
      clear hgt
      by_cases hlt : k < l.length
      · have hi := (hp.ins k hlt).below hbel (hp.lt (by intro e; subst e; simp at hlt))
        have hsz := hp.sz _ (getD_mem l k hlt)
        obtain rfl := hp.at_ (by intro e; subst e; simp at hlt)
        have hdrop := drop_ins l k hlt
        generalize l.getD k default = x at *
        have Hdrop := Lib.hid hdrop
        obtain ⟨c0, c1, c2, c3, c4⟩ := hi
        have hsize := hbel.size
        clear hdrop hp
        by_cases hbig : (2000001 : Int) < (x.tree.size : Int)
        · have hG := Lib.hid (show G = false by rw [← Hg.out, Hdrop.out, goodTo]; simp; omega)
          go_wp2_with fail
          go_ret
          exact ⟨by rw [hG.out]; rfl, hbel.alloc hsize _⟩
        · by_cases hall : (2000000 : Int) < all + x.tree.size
          · have hG := Lib.hid (show G = false by rw [← Hg.out, Hdrop.out, goodTo]; simp; omega)
            go_wp2_with fail
            go_ret
            exact ⟨by rw [hG.out]; rfl, hbel.alloc hsize _⟩
          · have hall2 : all + x.tree.size ≤ 2000000 := by omega
            have hI : goodTo 2000000 l.length k all (l.drop k) = (insOk 2000000 k l.length x && goodTo 2000000 l.length (k + 1) (all + x.tree.size) (l.drop (k + 1))) := by
              rw [Hdrop.out, goodTo]; simp [hall2]
            rw [Hg.out] at hI
            have HI := Lib.hid hI
            clear hI hall
            cases hok : insOk 2000000 k l.length x with
            | false =>
              have hG := Lib.hid (show G = false by rw [HI.out, hok]; rfl)
              go_wp2_with (go_at_call 144; refine (right_c x.op x.a x.b x.c x.tree k l.length _ hsz (by omega) (by omega) hlt).mono ?_; rintro e w2 ⟨rfl, hb2⟩)
              go_ret
              exact ⟨by rw [hG.out]; rfl, (hbel.alloc hsize _).trans (hb2.mono (by simp; omega))⟩
            | true =>
              go_wp2_with (go_at_call 144; refine (right_c x.op x.a x.b x.c x.tree k l.length _ hsz (by omega) (by omega) hlt).mono ?_; rintro e w2 ⟨rfl, hb2⟩)
              go_roundw
              case rel =>
                refine ⟨k + 1, all + x.tree.size, by omega, by go_num, rfl, by omega, hall2, ?_, (hbel.alloc hsize _).trans (hb2.mono (by simp; omega))⟩
                have := HI.out
                rw [hok] at this
                simpa using this.symm
              case measure => simp [intOf]; omega
      · have hG := Lib.hid (show G = true by rw [← Hg.out, List.drop_of_length_le (by omega)]; rfl)
        go_wp2_with fail
        go_ret
        exact ⟨by rw [hG.out]; rfl, hbel⟩

end Go.Proofs.Ythmnbciefpkpmaa
