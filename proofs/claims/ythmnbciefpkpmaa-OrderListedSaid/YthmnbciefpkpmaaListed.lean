/- The walks of Fits, Coded and OrderListed; the order and the count of the listed programs. -/
import Derived.Test.YthmnbciefpkpmaaListing10
import Derived.Test.YthmnbciefpkpmaaAwake10
namespace Go.Proofs.Ythmnbciefpkpmaa
open Go.RowKit

theorem before_rankL {a b : T} : decide (rankL (enc a) < rankL (enc b)) = before (enc a) (enc b) := by
  obtain ⟨k, hw⟩ := enc_word a
  obtain ⟨k', hw'⟩ := enc_word b
  rw [Bool.eq_iff_iff, decide_eq_true_eq]
  exact rank_less hw hw'

def okC (l : List Ins) : Bool := decide (treesN l ≤ 2000000) && decide ((codeT l).size ≤ 2000000)

def CodedPost (l : List Ins) (w : World) (e : Ending) (w' : World) : Prop :=
  (∃ s, e = .returned (.tuple #[.string s, .bool (okC l)]) ∧ (okC l = true → s = strB (enc (codeT l)))) ∧ Below w.heap.size w w'

theorem fits_c (ao : Option Addr) (b o cap : Nat) (l : List Ins) (w : World) (hp : ProgIn w ao b o l) (hlen : l.length ≤ 4000) :
    Calls Try.prog 102 #[.slice ao l.length cap] w fun e w' => e = .returned (.bool (decide (treesN l ≤ 2000000))) ∧ w = w' := by
  have hc := fun cap => trees_c ao b o cap l w hp hlen
  have hl : (l.length : Int) ≤ 4000 := by omega
  have e : decide (((treesN l : Nat) : Int) ≤ 2000000) = decide (treesN l ≤ 2000000) := by
    rw [Bool.eq_iff_iff, decide_eq_true_eq, decide_eq_true_eq]; omega
  rw [← e]
  generalize treesN l = N at *
  have Hc := Lib.hid hc
  clear hc e
  go_enter Try.func102, Try.ntmps102
  go_wp2_with fail
  refine (Hc.out _).mono ?_
  rintro e w1 ⟨rfl, rfl⟩
  go_wp2_with fail
  go_ret
  exact ⟨rfl, rfl⟩

theorem coded_c (ao : Option Addr) (b o cap : Nat) (l : List Ins) (w : World) (hp : ProgIn w ao b o l) (hg : goodP 4000 2000000 l = true) :
    Calls Try.prog 41 #[.slice ao l.length cap] w (CodedPost l w) := by
  have hlen : l.length ≤ 4000 := by have := goodP_len hg; omega
  have h1 := fun cap => fits_c ao b o cap l w hp hlen
  have h2 := fun cap => code2_c ao b o cap l w hp hg
  have hz : (strB (enc (codeT l))).size = (codeT l).size := by rw [strB_size, enc_len]
  have hk : okC l = (decide (treesN l ≤ 2000000) && decide ((codeT l).size ≤ 2000000)) := rfl
  rw [← hz] at hk
  clear hz hg hp
  unfold CodedPost
  generalize strB (enc (codeT l)) = s at *
  have H2 := Lib.hid h2
  have HK := Lib.hid hk
  generalize okC l = K at *
  clear h2 hk hlen
  cases hd : decide (treesN l ≤ 2000000) with
  | false =>
    rw [hd] at h1 HK
    have H1 := Lib.hid h1
    clear h1 hd
    obtain rfl : K = false := HK.out
    go_enter Try.func41, Try.ntmps41
    go_wp2_with fail
    refine (H1.out _).mono ?_
    rintro e w1 ⟨rfl, rfl⟩
    go_wp2_with fail
    go_ret2
    exact ⟨⟨_, rfl, fun h => by cases h⟩, Below.refl _ _⟩
  | true =>
    rw [hd] at h1 HK
    have H1 := Lib.hid h1
    clear h1 hd
    have hK : K = decide ((s.size : Int) ≤ 2000000) := by
      rw [HK.out, Bool.true_and, Bool.eq_iff_iff, decide_eq_true_eq, decide_eq_true_eq]; omega
    subst hK
    go_enter Try.func41, Try.ntmps41
    go_wp2_with fail
    refine (H1.out _).mono ?_
    rintro e w1 ⟨rfl, rfl⟩
    go_wp2_with fail
    refine (H2.out _).mono ?_
    rintro e w2 ⟨rfl, hb⟩
    go_wp2_with fail
    go_ret2
    exact ⟨⟨_, rfl, fun _ => rfl⟩, hb⟩

theorem treesN_raw : ∀ t : T, treesN (t.items.map rawI) ≤ t.size
  | .nil => by simp [T.items, treesN]
  | .node a b => by
    have h1 := treesN_raw b
    have h2 := rawI_tree a
    simp only [T.items, List.map_cons, treesN, T.size]
    omega

theorem progs_okC {m : Nat} (hm : m ≤ 11) {l : List Ins} (h : l ∈ progs m) : okC l = true ∧ (codeT l).size / 2 ≤ m := by
  obtain ⟨j, hj, hd⟩ := progsTo_mem _ l h
  have hbb := base_mono (show m + 1 ≤ 30 by omega)
  have hb31 : base 30 < base 31 := base_lt 30
  have hc := (decP_code hd).1
  have hr := decP_raw hd
  have hs := treeAt_size (i := j) (by omega)
  have ht := treesN_raw (treeAt j)
  rw [hr] at ht
  have hp := (treeAt_pairs (i := j) (most := m) (by omega)).2 hj
  rw [hc]
  unfold okC
  rw [hc]
  refine ⟨by simp; omega, hp⟩

theorem rank_of {i : Nat} (h : i < base 31) {l : List Ins} (hd : decP (treeAt i) = some l) : rankL (enc (codeT l)) = i := by
  rw [(decP_code hd).1]
  obtain ⟨k, _, _, hr⟩ := treeAt_spec h
  exact hr

/-- the codes of the list grow -/
theorem progsTo_grow : ∀ (i : Nat), i ≤ base 31 → ∀ k, k + 1 < (progsTo i).length → rankL (enc (codeT ((progsTo i).getD k []))) < rankL (enc (codeT ((progsTo i).getD (k + 1) [])))
  | 0, _, k, h => by simp [progsTo] at h
  | i + 1, hi, k, h => by
    have ih := progsTo_grow i (by omega) k
    simp only [progsTo] at h ⊢
    cases hd : decP (treeAt i) with
    | none => rw [hd] at h; exact ih h
    | some q =>
      rw [hd] at h
      simp only [List.length_append, List.length_singleton] at h
      by_cases hk : k + 1 < (progsTo i).length
      · have e1 : (progsTo i ++ [q]).getD k [] = (progsTo i).getD k [] := by
          rw [List.getD_eq_getElem?_getD, List.getD_eq_getElem?_getD, List.getElem?_append_left (by omega)]
        have e2 : (progsTo i ++ [q]).getD (k + 1) [] = (progsTo i).getD (k + 1) [] := by
          rw [List.getD_eq_getElem?_getD, List.getD_eq_getElem?_getD, List.getElem?_append_left (by omega)]
        show rankL (enc (codeT ((progsTo i ++ [q]).getD k []))) < rankL (enc (codeT ((progsTo i ++ [q]).getD (k + 1) [])))
        rw [e1, e2]
        exact ih hk
      · have hk2 : k + 1 = (progsTo i).length := by omega
        have e1 : (progsTo i ++ [q]).getD k [] = (progsTo i).getD k [] := by
          rw [List.getD_eq_getElem?_getD, List.getD_eq_getElem?_getD, List.getElem?_append_left (by omega)]
        have e2 : (progsTo i ++ [q]).getD (k + 1) [] = q := by
          rw [List.getD_eq_getElem?_getD, hk2, List.getElem?_append_right (by omega)]; simp
        show rankL (enc (codeT ((progsTo i ++ [q]).getD k []))) < rankL (enc (codeT ((progsTo i ++ [q]).getD (k + 1) [])))
        rw [e1, e2, rank_of (by omega) hd]
        have hm : (progsTo i).getD k [] ∈ progsTo i := by
          rw [List.getD_eq_getElem?_getD, List.getElem?_eq_getElem (by omega)]; simp
        obtain ⟨j, hj, hdj⟩ := progsTo_mem i _ hm
        rw [rank_of (by omega) hdj]
        exact hj

/-- how often a code is in the list -/
def cntC (t : T) (ps : List (List Ins)) : Nat := ps.countP fun l => decide (codeT l = t)

theorem rank_eqT {a b : T} (h : rankL (enc a) = rankL (enc b)) : a = b := by
  obtain ⟨k, hw⟩ := enc_word a
  obtain ⟨k', hw'⟩ := enc_word b
  exact enc_inj (rank_inj hw hw' h)

theorem cnt_to {t : T} {p : List Ins} (hp : decP t = some p) : ∀ i, i ≤ base 31 → cntC t (progsTo i) = if rankL (enc t) < i then 1 else 0
  | 0, _ => by simp [cntC, progsTo]
  | i + 1, hi => by
    have ih := cnt_to hp i (by omega)
    obtain ⟨k, _, hw, hr⟩ := treeAt_spec (show i < base 31 by omega)
    simp only [progsTo]
    cases hd : decP (treeAt i) with
    | none =>
      have hne : rankL (enc t) ≠ i := by
        intro e
        have := rank_eqT (a := t) (b := treeAt i) (by rw [e, hr])
        rw [← this, hp] at hd
        cases hd
      show cntC t (progsTo i) = _
      rw [ih]
      by_cases h : rankL (enc t) < i
      · rw [if_pos h, if_pos (by omega)]
      · rw [if_neg h, if_neg (by omega)]
    | some q =>
      have hq := (decP_code hd).1
      show cntC t (progsTo i ++ [q]) = _
      unfold cntC at ih ⊢
      rw [List.countP_append, ih]
      by_cases he : rankL (enc t) = i
      · have := rank_eqT (a := t) (b := treeAt i) (by rw [he, hr])
        have e2 : decide (codeT q = t) = true := by rw [hq, this]; simp
        rw [if_neg (by omega), if_pos (by omega)]
        simp [e2]
      · have e2 : decide (codeT q = t) = false := by
          rw [hq]; simp only [decide_eq_false_iff_not]
          intro e; rw [← e, hr] at he; exact he rfl
        have e3 : List.countP (fun l => decide (codeT l = t)) [q] = 0 := by simp [e2]
        rw [e3]
        by_cases h : rankL (enc t) < i
        · rw [if_pos h, if_pos (by omega)]
        · rw [if_neg h, if_neg (by omega)]

theorem rank_pairs (t : T) (m : Nat) : rankL (enc t) < base (m + 1) ↔ t.size / 2 ≤ m := by
  obtain ⟨k, hw⟩ := enc_word t
  have hl := hw.len
  rw [enc_len] at hl
  have hlt := hw.rk_lt
  rw [rankL_word hw]
  have e : base (k + 1) = base k + ways k 1 := rfl
  have hk : t.size / 2 = k := by omega
  rw [hk]
  constructor
  · intro h
    rcases Nat.lt_or_ge m k with h2 | h2
    · have := base_mono (show m + 1 ≤ k by omega)
      omega
    · exact h2
  · intro h
    have := base_mono (show k + 1 ≤ m + 1 by omega)
    omega

theorem cnt_progs {t : T} {p : List Ins} (hp : decP t = some p) {m : Nat} (hm : m ≤ 11) : cntC t (progs m) = if t.size / 2 ≤ m then 1 else 0 := by
  have hbb := base_mono (show m + 1 ≤ 30 by omega)
  have hb31 : base 30 < base 31 := base_lt 30
  unfold progs
  rw [cnt_to hp _ (by omega)]
  simp only [rank_pairs]

def SmallOne (w : World) (e : Ending) (w' : World) : Prop := (∃ v : Bool, e = .returned (.bool v)) ∧ w = w'

set_option maxRecDepth 100000 in
theorem small_one (most : Int) (g n cap : Nat) (w : World) (hn : n ≤ 100)
    (h : ∀ i, i < n → ∃ ao b o cp l, w.cell? ⟨g, i, none⟩ = some (.slice ao l.length cp) ∧ ProgIn w ao b o l ∧ l.length ≤ 2932031007402) :
    Calls Try.prog 39 #[.int .i64 most, .slice (some ⟨g, 0, none⟩) n cap] w (SmallOne w) := by
  have hni : (n : Int) ≤ 100 := by omega
  have Hh := Lib.hid h
  clear h
  go_enter Try.func39, Try.ntmps39
  go_wp2_with fail
  go_loop [5, 6] (fun m i => ∃ (k : Nat) (v : Int), k ≤ n ∧ i = .int .i64 k ∧ m = .int .i64 v) (fun _ i => n - (intOf i).toNat)
  case atStart => exact ⟨0, 0, Nat.zero_le _, rfl, rfl⟩
  case round =>
    obtain ⟨k, v, hk, rfl, rfl⟩ := hrel
    by_cases hlt : k < n
    · obtain ⟨ao, b, o, cp, l, c0, hp, hl⟩ := Hh.out k hlt
      have hc := fun w hp => trees_any ao b o cp l w hp (by omega)
      have Hc := Lib.hid (hc w hp)
      have i2 : (k : Int) < (n : Int) := by omega
      generalize l.length = N at *
      clear hc hp
      go_wp2_with (go_at_call 100; refine (Hc.out).mono ?_; rintro e w' ⟨⟨u, rfl⟩, rfl⟩)
      · go_ret
        exact ⟨⟨_, rfl⟩, rfl⟩
      · go_round
        case rel => exact ⟨k + 1, _, by omega, by go_num, rfl⟩
        case measure => simp [intOf]; omega
    · have i2 : (n : Int) ≤ (k : Int) := by omega
      go_wp2_with fail
      go_ret
      exact ⟨⟨_, rfl⟩, rfl⟩


def lastS (ps : List (List Ins)) : Nat → ByteArray
  | 0 => ⟨#[]⟩
  | k + 1 => strB (enc (codeT (ps.getD k [])))

theorem code_eq (l : List Ins) (t : T) : ((strB (enc (codeT l))).toList == (strB (enc t)).toList) = decide (codeT l = t) := by
  rw [Bool.eq_iff_iff, decide_eq_true_eq, beq_iff_eq, toList_strB, toList_strB]
  exact ⟨fun h => enc_inj h, fun h => by rw [h]⟩

theorem cnt_take (t : T) (ps : List (List Ins)) (k : Nat) (h : k < ps.length) : cntC t (ps.take (k + 1)) = cntC t (ps.take k) + if decide (codeT (ps.getD k []) = t) = true then 1 else 0 := by
  rw [List.take_succ_eq_append_getElem h]
  unfold cntC
  rw [List.countP_append]
  have e : ps[k] = ps.getD k [] := by simp [h]
  rw [e]
  simp [List.countP_cons]

set_option maxRecDepth 100000 in
set_option maxHeartbeats 2000000 in
theorem listed_go (ao : Option Addr) (b o cap : Nat) (l : List Ins) (m : Nat) (w : World) (hp : ProgIn w ao b o l) (hlen : l.length ≤ 2932031007402) (hm : m ≤ 11) (hg : goodP 4000 2000000 l = true) :
    Calls Try.prog 8 #[.slice ao l.length cap, .int .i64 m] w fun e w' => e = .returned (.bool true) ∧ Below w.heap.size w w' := by
  have hm1 : (m : Int) ≤ 11 := by omega
  have hm0 : (0 : Int) ≤ (m : Int) := by omega
  have hv := fun w hp => valid2_c ao b o cap l w hp
  rw [hg] at hv
  have hc := fun w hp => coded_c ao b o cap l w hp hg
  have hpr := fun w => programs_c m w hm
  have hln : (progs m).length ≤ 20000000 := by
    have := progsTo_len (base (m + 1))
    have := base_12 hm
    unfold progs; omega
  have hgd := fun q (hq : q ∈ progs m) => And.intro (progs_good hq) (progs_okC hm hq)
  have hgr : ∀ k, k + 1 < (progs m).length → before (enc (codeT ((progs m).getD k []))) (enc (codeT ((progs m).getD (k + 1) []))) = true := by
    intro k hk
    have hbb := base_mono (show m + 1 ≤ 30 by omega)
    have hb31 : base 30 < base 31 := base_lt 30
    have := progsTo_grow (base (m + 1)) (by omega) k hk
    rw [← before_rankL]
    exact decide_eq_true this
  have hcn := cnt_progs (decP_codeT hg) hm
  have hps := fun w => r01_Pairs_c (strB (enc (codeT l))) w
  simp only [ones_tree] at hps
  unfold PrgPost at hpr
  generalize progs m = ps at *
  have Hv := Lib.hid hv
  have Hc := Lib.hid hc
  have Hpr := Lib.hid hpr
  have Hgd := Lib.hid hgd
  have Hgr := Lib.hid hgr
  have Hcn := Lib.hid hcn
  have Hps := Lib.hid hps
  have Hnn := Lib.hid (show 0 ≤ cntC (codeT l) ps from Nat.zero_le _)
  clear hv hc hpr hgd hgr hcn hps hg hm
  go_enter Try.func8, Try.ntmps8
  go_wp2_with fail
  have hbx := (Below.refl w.heap.size w).alloc (Nat.le_refl _) (.cells #[.slice ao l.length cap] 43 (0, 0))
  have hpx := hp.below hbx
  have hcx : (w.alloc (.cells #[.slice ao l.length cap] 43 (0, 0))).cell? ⟨w.heap.size, 0, none⟩ = some (.slice ao l.length cap) := cell_of_block (heap_alloc_new _ _) 0
  generalize w.alloc (.cells #[.slice ao l.length cap] 43 (0, 0)) = wx at *
  refine (small_one 20000 w.heap.size 1 1 _ (by decide) (fun i hi => by
    obtain rfl : i = 0 := by omega
    exact ⟨ao, b, o, cap, l, hcx, hpx, hlen⟩)).mono ?_
  rintro e wy ⟨⟨v, rfl⟩, rfl⟩
  clear hcx
  cases v with
  | false =>
    go_wp2_with fail
    refine (awake10_c _).mono ?_
    rintro e w6 ⟨rfl, hb6⟩
    go_wp2_with fail
    go_ret
    exact ⟨rfl, hbx.trans (hb6.mono hbx.size)⟩
  | true =>
    go_wp2_with fail
    refine (Hv.out _ hpx).mono ?_
    rintro e w2 ⟨rfl, hb2⟩
    have hp2 := hpx.below hb2
    go_wp2_with fail
    refine (Hc.out _ hp2).mono ?_
    rintro e w3 ⟨⟨s, rfl, hs⟩, hb3⟩
    have hb23 := hb2.trans (hb3.mono hb2.size)
    have hbel3 := hbx.trans (hb23.mono hbx.size)
    cases hok : okC l with
    | false =>
      clear hs
      go_wp2_with fail
      refine (awake10_c _).mono ?_
      rintro e w6 ⟨rfl, hb6⟩
      go_wp2_with fail
      go_ret
      exact ⟨rfl, hbel3.trans (hb6.mono hbel3.size)⟩
    | true =>
      rw [hok] at hs
      obtain rfl := hs rfl
      have hsz : (strB (enc (codeT l))).size ≤ 2000000 := by
        rw [strB_size, enc_len]
        simp only [okC, Bool.and_eq_true, decide_eq_true_eq] at hok
        exact hok.2
      have Hps2 := Lib.hid (fun w => Hps.out w (by omega))
      generalize hS : strB (enc (codeT l)) = S at *
      have HS := Lib.hid hS
      clear hok hs hp2 hb2 hb3 hb23 hS Hps hpx hp hbx
      go_wp2_with fail
      refine (Hpr.out _).mono ?_
      rintro e w4 ⟨⟨po, pcap, rfl, hpa⟩, hb4⟩
      have hbel4 := hbel3.trans (hb4.mono hbel3.size)
      have hB4 := hbel4.size
      have hB3 := hbel3.size
      clear hb4 hbel3
      go_wp2_with fail
      go_loopw [9, 10, 11] (fun c s i wr => ∃ k : Nat, k ≤ ps.length ∧ c = .int .i64 (cntC (codeT l) (ps.take k)) ∧ s = .string (lastS ps k) ∧ i = .int .i64 k ∧ ProgsAt wr w3.heap.size po pcap ps ∧ Below w.heap.size w wr ∧ w.heap.size ≤ wr.heap.size) (fun _ _ i _ => ps.length - (intOf i).toNat)
      case atStart => exact ⟨0, Nat.zero_le _, rfl, rfl, rfl, hpa, hbel4, hB4⟩
      case round =>
        obtain ⟨k, hk, rfl, rfl, rfl, hpw, hbel, hBw⟩ := hrel
        clear hpa hbel4 hB4
        have hct : cntC (codeT l) (ps.take k) ≤ 20000000 := by
          have h1 : cntC (codeT l) (ps.take k) ≤ (ps.take k).length := List.countP_le_length
          have h2 : (ps.take k).length ≤ ps.length := by rw [List.length_take]; omega
          omega
        by_cases hlt : k < ps.length
        · obtain ⟨gp, a, c, rfl, _, hgp, c0, hown, hxs⟩ := hpw.cell k hlt
          have hgd := Hgd.out _ (by simp [hlt] : ps.getD k [] ∈ ps)
          have hct2 := cnt_take (codeT l) ps k hlt
          have hceq := code_eq (ps.getD k []) (codeT l)
          rw [HS.out] at hceq
          obtain ⟨⟨hg1, hl4⟩, hok1, hpk⟩ := hgd
          have hlast : lastS ps (k + 1) = strB (enc (codeT (ps.getD k []))) := rfl
          have hbf : 0 < k → before (lastS ps k).data.toList (strB (enc (codeT (ps.getD k [])))).data.toList = true := by
            intro h0
            obtain ⟨j, rfl⟩ : ∃ j, k = j + 1 := ⟨k - 1, by omega⟩
            have := Hgr.out j hlt
            simpa [lastS] using this
          have hsz2 : (strB (enc (codeT (ps.getD k [])))).size ≤ 2000000 := by
            rw [strB_size, enc_len]
            simp only [okC, Bool.and_eq_true, decide_eq_true_eq] at hok1
            exact hok1.2
          have hpq := fun w => r01_Pairs_c (strB (enc (codeT (ps.getD k [])))) w (by omega)
          simp only [ones_tree] at hpq
          obtain ⟨b', hpi, _⟩ := hown.progIn (fun x hx => Nat.le_trans (hxs x hx) (by decide))
          have hv1 := fun w hp => valid2_c a b' 0 c (ps.getD k []) w hp
          rw [hg1] at hv1
          have hc1 := fun w hp => coded_c a b' 0 c (ps.getD k []) w hp hg1
          unfold CodedPost at hc1
          rw [hok1] at hc1
          generalize (codeT (ps.getD k [])).size / 2 = pk at *
          generalize strB (enc (codeT (ps.getD k []))) = s1 at *
          generalize (decide (codeT (ps.getD k []) = codeT l)) = B at *
          generalize (ps.getD k []) = q at *
          have hbe := fun w => before10_c (lastS ps k) s1 w
          generalize lastS ps k = s0 at *
          generalize cntC (codeT l) (ps.take k) = C at *
          have Hct2 := Lib.hid hct2
          have Hlast := Lib.hid hlast
          have Hbf := Lib.hid hbf
          have Hpq := Lib.hid hpq
          have Hv1 := Lib.hid hv1
          have Hc1 := Lib.hid hc1
          have Hbe := Lib.hid hbe
          have hpk2 : (pk : Int) ≤ (m : Int) := by omega
          have i1 : (0 : Int) ≤ (k : Int) := by omega
          have i2 : (k : Int) < (ps.length : Int) := by omega
          clear hct2 hlast hbf hpq hv1 hc1 hbe hown hxs hg1 hok1 hsz2 hl4 hpk
          have hgpw : gp < wr.heap.size := hgp
          go_wp2_with fail
          refine (Hv1.out _ hpi).mono ?_
          rintro e x1 ⟨rfl, hx1⟩
          have hpi1 := hpi.below hx1
          have c1 : x1.cell? ⟨gp, k, none⟩ = some (.slice a q.length c) := (hx1.cell (p := ⟨gp, k, none⟩) hgpw).trans c0
          go_wp2_with fail
          refine (Hc1.out _ hpi1).mono ?_
          rintro e x2 ⟨⟨s1', rfl, hs1⟩, hx2⟩
          obtain rfl := hs1 trivial
          have hx12 := hx1.trans (hx2.mono hx1.size)
          have hpw2 := hpw.keep (KeepTy.below hx12) (KeepTy.below hx12)
          have hbel2 := hbel.trans (hx12.mono hBw)
          have HW := Lib.hid (And.intro hpw2 hbel2)
          clear hs1 hx1 hx2 hx12 hpw hpw2 hbel hbel2 hpi hpi1 c0 c1
          by_cases hk0 : 0 < k
          · have hk0i : (0 : Int) < (k : Int) := by omega
            have hbt := Hbf.out hk0
            have hbe := Hbe.out
            rw [hbt] at hbe
            have Hbe2 := Lib.hid hbe
            clear hbt hbe Hbe hk0
            go_wp2_with fail
            refine (Hpq.out _).mono ?_
            rintro e y1 ⟨rfl, rfl⟩
            go_wp2_with fail
            refine (Hbe2.out _).mono ?_
            rintro e y2 ⟨rfl, rfl⟩
            cases B with
            | false =>
              go_wp2_with fail
              go_roundw
              case rel => exact ⟨k + 1, by omega, by rw [Hct2.out]; simp, by rw [Hlast.out], by go_num, HW.out.1, HW.out.2, HW.out.2.size⟩
              case measure => simp [intOf] <;> omega
            | true =>
              go_wp2_with fail
              go_roundw
              case rel => exact ⟨k + 1, by omega, by rw [Hct2.out]; go_num, by rw [Hlast.out], by go_num, HW.out.1, HW.out.2, HW.out.2.size⟩
              case measure => simp [intOf] <;> omega
          · have hk0i : (k : Int) ≤ 0 := by omega
            go_wp2_with fail
            refine (Hpq.out _).mono ?_
            rintro e y1 ⟨rfl, rfl⟩
            cases B with
            | false =>
              go_wp2_with fail
              go_roundw
              case rel => exact ⟨k + 1, by omega, by rw [Hct2.out]; simp, by rw [Hlast.out], by go_num, HW.out.1, HW.out.2, HW.out.2.size⟩
              case measure => simp [intOf] <;> omega
            | true =>
              go_wp2_with fail
              go_roundw
              case rel => exact ⟨k + 1, by omega, by rw [Hct2.out]; go_num, by rw [Hlast.out], by go_num, HW.out.1, HW.out.2, HW.out.2.size⟩
              case measure => simp [intOf] <;> omega
        · have hkk : k = ps.length := by omega
          have hcc := Hcn.out
          rw [show ps.take k = ps by rw [hkk]; exact List.take_length] at *
          have i2 : (ps.length : Int) ≤ (k : Int) := by omega
          generalize cntC (codeT l) ps = C at *
          generalize (codeT l).size / 2 = pp at *
          by_cases hpm : pp ≤ m
          · rw [if_pos hpm] at hcc
            subst hcc
            have hpm2 : (pp : Int) ≤ (m : Int) := by omega
            clear hpm hkk hlt
            go_wp2_with fail
            refine (Hps2.out _).mono ?_
            rintro e y1 ⟨rfl, rfl⟩
            go_wp2_with fail
            refine (awake10_c _).mono ?_
            rintro e w6 ⟨rfl, hb6⟩
            go_wp2_with fail
            go_ret
            exact ⟨rfl, hbel.trans (hb6.mono hbel.size)⟩
          · rw [if_neg hpm] at hcc
            subst hcc
            have hpm2 : (m : Int) < (pp : Int) := by omega
            clear hpm hkk hlt
            go_wp2_with fail
            refine (Hps2.out _).mono ?_
            rintro e y1 ⟨rfl, rfl⟩
            go_wp2_with fail
            refine (awake10_c _).mono ?_
            rintro e w6 ⟨rfl, hb6⟩
            go_wp2_with fail
            go_ret
            exact ⟨rfl, hbel.trans (hb6.mono hbel.size)⟩

theorem listed_bad (ao : Option Addr) (b o cap : Nat) (l : List Ins) (n : Int) (w : World) (hp : ProgIn w ao b o l) (hlen : l.length ≤ 2932031007402) (hg : goodP 4000 2000000 l = false) :
    Calls Try.prog 8 #[.slice ao l.length cap, .int .i64 n] w fun e w' => e = .returned (.bool true) ∧ Below w.heap.size w w' := by
  have hv := fun w hp => valid2_c ao b o cap l w hp
  rw [hg] at hv
  have Hv := Lib.hid hv
  clear hv hg
  go_enter Try.func8, Try.ntmps8
  go_wp2_with fail
  have hbx := (Below.refl w.heap.size w).alloc (Nat.le_refl _) (.cells #[.slice ao l.length cap] 43 (0, 0))
  have hpx := hp.below hbx
  have hcx : (w.alloc (.cells #[.slice ao l.length cap] 43 (0, 0))).cell? ⟨w.heap.size, 0, none⟩ = some (.slice ao l.length cap) := cell_of_block (heap_alloc_new _ _) 0
  generalize w.alloc (.cells #[.slice ao l.length cap] 43 (0, 0)) = wx at *
  refine (small_one 20000 w.heap.size 1 1 _ (by decide) (fun i hi => by
    obtain rfl : i = 0 := by omega
    exact ⟨ao, b, o, cap, l, hcx, hpx, hlen⟩)).mono ?_
  rintro e wy ⟨⟨v, rfl⟩, rfl⟩
  clear hcx
  cases v with
  | false =>
    go_wp2_with fail
    refine (awake10_c _).mono ?_
    rintro e w6 ⟨rfl, hb6⟩
    go_wp2_with fail
    go_ret
    exact ⟨rfl, hbx.trans (hb6.mono hbx.size)⟩
  | true =>
    go_wp2_with fail
    refine (Hv.out _ hpx).mono ?_
    rintro e w2 ⟨rfl, hb2⟩
    have hbel := hbx.trans (hb2.mono hbx.size)
    go_wp2_with fail
    refine (awake10_c _).mono ?_
    rintro e w6 ⟨rfl, hb6⟩
    go_wp2_with fail
    go_ret
    exact ⟨rfl, hbel.trans (hb6.mono hbel.size)⟩

theorem listed_low (ao : Option Addr) (b o cap : Nat) (l : List Ins) (n : Int) (w : World) (hp : ProgIn w ao b o l) (hlen : l.length ≤ 2932031007402) (hg : goodP 4000 2000000 l = true) (hn : n < 0) :
    Calls Try.prog 8 #[.slice ao l.length cap, .int .i64 n] w fun e w' => e = .returned (.bool true) ∧ Below w.heap.size w w' := by
  have hv := fun w hp => valid2_c ao b o cap l w hp
  rw [hg] at hv
  have Hv := Lib.hid hv
  clear hv hg
  go_enter Try.func8, Try.ntmps8
  go_wp2_with fail
  have hbx := (Below.refl w.heap.size w).alloc (Nat.le_refl _) (.cells #[.slice ao l.length cap] 43 (0, 0))
  have hpx := hp.below hbx
  have hcx : (w.alloc (.cells #[.slice ao l.length cap] 43 (0, 0))).cell? ⟨w.heap.size, 0, none⟩ = some (.slice ao l.length cap) := cell_of_block (heap_alloc_new _ _) 0
  generalize w.alloc (.cells #[.slice ao l.length cap] 43 (0, 0)) = wx at *
  refine (small_one 20000 w.heap.size 1 1 _ (by decide) (fun i hi => by
    obtain rfl : i = 0 := by omega
    exact ⟨ao, b, o, cap, l, hcx, hpx, hlen⟩)).mono ?_
  rintro e wy ⟨⟨v, rfl⟩, rfl⟩
  clear hcx
  cases v with
  | false =>
    go_wp2_with fail
    refine (awake10_c _).mono ?_
    rintro e w6 ⟨rfl, hb6⟩
    go_wp2_with fail
    go_ret
    exact ⟨rfl, hbx.trans (hb6.mono hbx.size)⟩
  | true =>
    go_wp2_with fail
    refine (Hv.out _ hpx).mono ?_
    rintro e w2 ⟨rfl, hb2⟩
    have hbel := hbx.trans (hb2.mono hbx.size)
    go_wp2_with fail
    refine (awake10_c _).mono ?_
    rintro e w6 ⟨rfl, hb6⟩
    go_wp2_with fail
    go_ret
    exact ⟨rfl, hbel.trans (hb6.mono hbel.size)⟩

theorem listed_high (ao : Option Addr) (b o cap : Nat) (l : List Ins) (n : Int) (w : World) (hp : ProgIn w ao b o l) (hlen : l.length ≤ 2932031007402) (hg : goodP 4000 2000000 l = true) (hn : 11 < n) :
    Calls Try.prog 8 #[.slice ao l.length cap, .int .i64 n] w fun e w' => e = .returned (.bool true) ∧ Below w.heap.size w w' := by
  have hv := fun w hp => valid2_c ao b o cap l w hp
  rw [hg] at hv
  have Hv := Lib.hid hv
  clear hv hg
  have hn0 : 0 ≤ n := by omega
  go_enter Try.func8, Try.ntmps8
  go_wp2_with fail
  have hbx := (Below.refl w.heap.size w).alloc (Nat.le_refl _) (.cells #[.slice ao l.length cap] 43 (0, 0))
  have hpx := hp.below hbx
  have hcx : (w.alloc (.cells #[.slice ao l.length cap] 43 (0, 0))).cell? ⟨w.heap.size, 0, none⟩ = some (.slice ao l.length cap) := cell_of_block (heap_alloc_new _ _) 0
  generalize w.alloc (.cells #[.slice ao l.length cap] 43 (0, 0)) = wx at *
  refine (small_one 20000 w.heap.size 1 1 _ (by decide) (fun i hi => by
    obtain rfl : i = 0 := by omega
    exact ⟨ao, b, o, cap, l, hcx, hpx, hlen⟩)).mono ?_
  rintro e wy ⟨⟨v, rfl⟩, rfl⟩
  clear hcx
  cases v with
  | false =>
    go_wp2_with fail
    refine (awake10_c _).mono ?_
    rintro e w6 ⟨rfl, hb6⟩
    go_wp2_with fail
    go_ret
    exact ⟨rfl, hbx.trans (hb6.mono hbx.size)⟩
  | true =>
    go_wp2_with fail
    refine (Hv.out _ hpx).mono ?_
    rintro e w2 ⟨rfl, hb2⟩
    have hbel := hbx.trans (hb2.mono hbx.size)
    go_wp2_with fail
    refine (awake10_c _).mono ?_
    rintro e w6 ⟨rfl, hb6⟩
    go_wp2_with fail
    go_ret
    exact ⟨rfl, hbel.trans (hb6.mono hbel.size)⟩

theorem listed_c (ao : Option Addr) (b o cap : Nat) (l : List Ins) (n : Int) (w : World) (hp : ProgIn w ao b o l) (hlen : l.length ≤ 2932031007402) :
    Calls Try.prog 8 #[.slice ao l.length cap, .int .i64 n] w fun e w' => e = .returned (.bool true) ∧ Below w.heap.size w w' := by
  cases hg : goodP 4000 2000000 l with
  | false => exact listed_bad ao b o cap l n w hp hlen hg
  | true =>
    rcases Int.lt_or_le n 0 with h | h
    · exact listed_low ao b o cap l n w hp hlen hg h
    · rcases Int.lt_or_le 11 n with h2 | h2
      · exact listed_high ao b o cap l n w hp hlen hg h2
      · have := listed_go ao b o cap l n.toNat w hp hlen (by omega) hg
        rwa [show ((n.toNat : Nat) : Int) = n by omega] at this

end Go.Proofs.Ythmnbciefpkpmaa
