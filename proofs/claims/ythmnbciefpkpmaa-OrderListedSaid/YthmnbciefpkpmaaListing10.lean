/- The walks of Programs of the tenth reference and of Same of the eighth; what the listed programs are. -/
import Derived.Test.YthmnbciefpkpmaaListing
import Derived.Test.YthmnbciefpkpmaaNext10
import Derived.Test.YthmnbciefpkpmaaRefDecode
import Derived.BigQuiet
namespace Go.Proofs.Ythmnbciefpkpmaa
open Go.RowKit

def Prg10Post (w : World) (ps : List (List Ins)) (e : Ending) (w' : World) : Prop :=
  (∃ ao cap, e = .returned (.slice ao ps.length cap) ∧ ProgsAt w' w.heap.size ao cap ps) ∧ Below w.heap.size w w'

theorem ones_tree (t : T) : ones (enc t) = t.size / 2 := by
  obtain ⟨k, hw⟩ := enc_word t
  have hon := hw.ones
  have hl := hw.len
  rw [enc_len] at hl
  omega

set_option maxRecDepth 100000 in
set_option maxHeartbeats 4000000 in
theorem programs10_c (m : Nat) (w : World) (hm : m ≤ 11) : Calls Try.prog 35 #[.int .i64 m] w (Prg10Post w (progs m)) := by
  have hlim := base_12 hm
  have hbb := base_mono (show m + 1 ≤ 30 by omega)
  have hb31 : base 30 < base 31 := base_lt 30
  unfold progs
  have hmi : (m : Int) ≤ 11 := by omega
  have hdec := fun i (hi : i < base 31) w => decode2_c (treeAt i) w (Nat.le_trans (treeAt_size hi) (by decide))
  have hnext := fun i (hi : i + 1 < base 31) w => next10_c (strB (enc (treeAt i))) w (valid_enc (treeAt i) (by have := treeAt_size (show i < base 31 by omega); omega))
  have hpair := fun i (hi : i < base 31) w => r10_Pairs_c (strB (enc (treeAt i))) w (by have := treeAt_size hi; rw [strB_size, enc_len]; omega)
  have hpairs := fun i (hi : i < base 31) => treeAt_pairs (most := m) hi
  have hp0 : strB (enc (treeAt 0)) = ⟨#[48]⟩ := by rw [treeAt_zero]; rfl
  have hBm : ∃ M, base (m + 1) = M := ⟨_, rfl⟩
  obtain ⟨M, hM⟩ := hBm
  rw [hM] at hlim hbb ⊢
  simp only [hM] at hpairs
  obtain ⟨i0, hi, hz0, hz1, hz2⟩ := info_parts progInfo
  have Hdec := Lib.hid hdec
  have Hnext := Lib.hid hnext
  have Hpair := Lib.hid hpair
  have Hpairs := Lib.hid hpairs
  have Hp0 := Lib.hid hp0
  clear hdec hnext hpair hpairs hp0 hM hm
  go_enter Try.func35, Try.ntmps35
  go_wp2_with fail
  go_loopw [3, 4] (fun v s wr => ∃ (i : Nat) (ao : Option Addr) (cap : Nat), v = .slice ao (progsTo i).length cap ∧ s = .string (strB (enc (treeAt i))) ∧ i ≤ M ∧ ProgsAt wr w.heap.size ao cap (progsTo i) ∧ Below w.heap.size w wr ∧ w.heap.size ≤ wr.heap.size) (fun _ s _ => match s with | .string b => M + 1 - rankL b.data.toList | _ => 0)
  case atStart => exact ⟨0, none, 0, rfl, by rw [Hp0.out], Nat.zero_le _, ⟨[], World.ownsRow_nil _ _ _ _, rfl⟩, Below.refl _ _, Nat.le_refl _⟩
  case round =>
    obtain ⟨i, ao, cap, rfl, rfl, hiM, hps, hbel, hBw⟩ := hrel
    have hi31 : i < base 31 := by omega
    have hsz := treeAt_size hi31
    have hpr := Hpairs.out i hi31
    have hpp := fun w => Hpair.out i hi31 w
    simp only [ones_tree] at hpp
    have hstr : ((((treeAt i).size / 2 : Nat) : Int) ≤ (m : Int)) ↔ i < M := by rw [← hpr]; omega
    generalize (treeAt i).size / 2 = pr at *
    have Hpp := Lib.hid hpp
    clear hpp
    by_cases hlt : i < M
    · have hle := hpr.2 hlt
      have hi31' : i + 1 < base 31 := by omega
      have hd := fun w => Hdec.out i hi31 w
      have hn := fun w => Hnext.out i hi31' w
      have hnx : strB (nxt (enc (treeAt i)) (strB (enc (treeAt i))).size 0 0) = strB (enc (treeAt (i + 1))) := by
        have h2 : (strB (enc (treeAt i))).size = (enc (treeAt i)).length := by rw [strB_size]
        rw [h2]
        have h3 := treeAt_succ hi31'
        unfold nextL at h3
        first | exact h3 | rw [h3]
      simp only [hnx] at hn
      clear hnx
      have hrk : rankL (enc (treeAt i)) = i := by obtain ⟨k, _, _, h⟩ := treeAt_spec hi31; exact h
      have hrk' : rankL (enc (treeAt (i + 1))) = i + 1 := by obtain ⟨k, _, _, h⟩ := treeAt_spec hi31'; exact h
      have hle2 : (pr : Int) ≤ (m : Int) := hstr.2 hlt
      have hlen := progsTo_len i
      have hdata : (strB (enc (treeAt i))).data.toList = enc (treeAt i) := by simp
      have hdata' : (strB (enc (treeAt (i + 1)))).data.toList = enc (treeAt (i + 1)) := by simp
      generalize hs : strB (enc (treeAt i)) = s at *
      generalize hs' : strB (enc (treeAt (i + 1))) = s' at *
      have Hd := Lib.hid hd
      have Hn := Lib.hid hn
      have HS := Lib.hid (And.intro hs' (And.intro (hdata ▸ hrk) (hdata' ▸ hrk')))
      clear hd hn hs hs' hrk hrk' hdata hdata' hpr hsz hstr hle
      cases hdp : decP (treeAt i) with
      | none =>
        rw [hdp] at Hd
        have hpt : progsTo (i + 1) = progsTo i := by simp only [progsTo, hdp]
        have Hpt := Lib.hid hpt
        clear hdp hpt
        generalize progsTo i = ps at *
        go_wp2_with fail
        refine (Hpp.out _).mono ?_
        rintro e x1 ⟨rfl, rfl⟩
        go_wp2_with fail
        refine (Hd.out _).mono ?_
        rintro e w2 ⟨⟨aol, capl, l, rfl, _⟩, hb2⟩
        go_wp2_with fail
        refine (Hn.out _).mono ?_
        rintro e w3 ⟨rfl, hb3⟩
        have hps3 := (hps.keep (KeepTy.below hb2) (KeepTy.below hb2)).keep (KeepTy.below hb3) (KeepTy.below hb3)
        have hbel3 := hbel.trans ((hb2.mono hBw).trans (hb3.mono (Nat.le_trans hBw hb2.size)))
        clear hps hbel hb2 hb3
        go_wp2_with fail
        go_roundw
        case rel => exact ⟨i + 1, ao, cap, by rw [Hpt.out], by rw [HS.out.1], by omega, by rw [Hpt.out]; exact hps3, hbel3, by have := hbel3.size; omega⟩
        case measure => have := HS.out; simp only []; omega
      | some l =>
        rw [hdp] at Hd
        have hpt : progsTo (i + 1) = progsTo i ++ [l] := by simp only [progsTo, hdp]
        have Hpt := Lib.hid hpt
        clear hdp hpt
        generalize progsTo i = ps at *
        go_wp2_with fail
        refine (Hpp.out _).mono ?_
        rintro e x1 ⟨rfl, rfl⟩
        go_wp2_with fail
        refine (Hd.out _).mono ?_
        rintro e w2 ⟨⟨aol, capl, l2, rfl, hl2, hownl, hxl⟩, hb2⟩
        obtain rfl := hl2 l rfl
        clear hl2
        obtain ⟨vs, hvs, hpsv⟩ := hps
        have hvs2 := rowKeep hvs (KeepTy.below hb2)
        have hpsv2 := PsAt.snoc (rowBase hownl hBw) hxl (hpsv.keep (KeepTy.below hb2))
        have hbel2 := hbel.trans (hb2.mono hBw)
        have hB2 : w.heap.size ≤ w2.heap.size := Nat.le_trans hBw hb2.size
        have Hl := Lib.hid (And.intro hpsv2 hbel2)
        clear hvs hpsv hpsv2 hbel hb2 hbel2 hownl hxl
        go_wp2_with (at_builtin; refine wpList_append_lies _ rfl _ _ 35 rfl w.heap.size 43 i0 _ 1 24 Try.underlying35 hi hz0 hz1 hz2 rfl (by decide) (.slice ao ps.length cap) ps.length vs rfl (hvs2.alloc _) ⟨w2.heap.size, 0, none⟩ 1 1 [.slice aol l.length capl] rfl rfl (news1 (heap_alloc_new _ _)) (by simp; rfl) (by decide) (by unfold maxLen; omega) (by omega) (by simp; omega) (w2.heap.size + 1) (by simp) ?_)
        intro g2 cap2 w3 hown3 hgrow hat hlt2
        have hvs2' := World.ownsRow.alloc hvs2 (.cells #[.slice aol l.length capl] 43 (0, 0))
        have hbel3 := (Hl.out.2.alloc hB2 (.cells #[.slice aol l.length capl] 43 (0, 0))).grown hgrow (by simp; omega) (fun k hk => (hvs2.lt k hk).1)
        have hps3 : ProgsAt w3 w.heap.size (some ⟨g2, 0, none⟩) cap2 (ps ++ [l]) := by
          refine ⟨vs ++ [.slice aol l.length capl], ?_, ?_⟩
          · rw [List.length_append]; exact hown3
          · exact (Hl.out.1.keep (KeepTy.alloc _ w2 (.cells #[.slice aol l.length capl] 43 (0, 0)))).keep (KeepTy.grown (by decide) hvs2' hgrow)
        have Hl3 := Lib.hid (And.intro hps3 hbel3)
        have hB3 : w.heap.size ≤ w3.heap.size := hbel3.size
        clear hvs2 hvs2' hown3 hgrow hat hlt2 hbel3 hps3 Hl
        go_wp2_with fail
        refine (Hn.out _).mono ?_
        rintro e w4 ⟨rfl, hb4⟩
        have hps4 := Hl3.out.1.keep (KeepTy.below hb4) (KeepTy.below hb4)
        have hbel4 := Hl3.out.2.trans (hb4.mono hB3)
        clear hb4 Hl3
        go_wp2_with fail
        go_roundw
        case rel => exact ⟨i + 1, some ⟨g2, 0, none⟩, cap2, by rw [Hpt.out]; simp, by rw [HS.out.1], by omega, by rw [Hpt.out]; exact hps4, hbel4, by have := hbel4.size; omega⟩
        case measure => have := HS.out; simp only []; omega
    · obtain rfl : i = M := by omega
      have hgt : (m : Int) < (pr : Int) := by
        have := mt hstr.1 hlt
        omega
      generalize strB (enc (treeAt i)) = s at *
      clear hpr hsz hstr
      go_wp2_with fail
      refine (Hpp.out _).mono ?_
      rintro e x1 ⟨rfl, rfl⟩
      go_wp2_with fail
      go_ret
      exact ⟨⟨ao, cap, rfl, hps⟩, hbel⟩

theorem ProgsAt.cell {w : World} {B cap : Nat} {ao : Option Addr} {ps : List (List Ins)} (h : ProgsAt w B ao cap ps) (k : Nat) (hk : k < ps.length) :
    ∃ g a c, ao = some ⟨g, 0, none⟩ ∧ B ≤ g ∧ g < w.heap.size ∧ w.cell? ⟨g, k, none⟩ = some (.slice a (ps.getD k []).length c) ∧ OwnProg w B a c (ps.getD k []) ∧ (∀ x ∈ ps.getD k [], x.tree.size ≤ 2000000) := by
  obtain ⟨vs, hrow, hps⟩ := h
  obtain ⟨a, c, e1, e2, e3⟩ := hps.at k hk
  rcases hrow.2 with ⟨h0, h1⟩ | ⟨g, cap', cur, hv, hB, hh, hr⟩
  · omega
  · cases hv
    refine ⟨g, a, c, rfl, hB, lt_of_block hh, ?_, e2, e3⟩
    have e := hrow.cellAt k (by omega)
    rw [e]
    exact e1

theorem progsTo_mem : ∀ (i : Nat) (l : List Ins), l ∈ progsTo i → ∃ j, j < i ∧ decP (treeAt j) = some l
  | 0, l, h => by simp [progsTo] at h
  | i + 1, l, h => by
    simp only [progsTo] at h
    cases hd : decP (treeAt i) with
    | none =>
      rw [hd] at h
      obtain ⟨j, hj, h⟩ := progsTo_mem i l h
      exact ⟨j, by omega, h⟩
    | some q =>
      rw [hd] at h
      rcases List.mem_append.1 h with h | h
      · obtain ⟨j, hj, h⟩ := progsTo_mem i l h
        exact ⟨j, by omega, h⟩
      · simp only [List.mem_singleton] at h
        subst h
        exact ⟨i, by omega, hd⟩

theorem progs_good {m : Nat} {l : List Ins} (h : l ∈ progs m) : goodP 4000 2000000 l = true ∧ l.length ≤ 4000 := by
  obtain ⟨j, _, hd⟩ := progsTo_mem _ l h
  have h2 := (decP_code hd).2
  have := goodP_len h2
  exact ⟨h2, by omega⟩

set_option maxRecDepth 100000 in
theorem same8_c (ao bo : Option Addr) (B C cap cap' : Nat) (ps : List (List Ins)) (w : World) (h1 : ProgsAt w B ao cap ps) (h2 : ProgsAt w C bo cap' ps) (hlen : ps.length ≤ 20000000) (hl : ∀ l ∈ ps, l.length ≤ 4000) :
    Calls Try.prog 36 #[.slice ao ps.length cap, .slice bo ps.length cap'] w fun e w' => e = .returned (.bool true) ∧ ∃ n, w' = w.drewN n := by
  have hb0 : ((ps.length : Int) != (ps.length : Int)) = false := by simp
  have HL := Lib.hid hl
  clear hl
  go_enter Try.func36, Try.ntmps36
  go_wp2_with fail
  go_loopw [5] (fun i wr => ∃ (k : Nat), k ≤ ps.length ∧ i = .int .i64 k ∧ ∃ n, wr = w.drewN n) (fun i _ => ps.length - (intOf i).toNat)
  case atStart => exact ⟨0, by omega, rfl, 0, rfl⟩
  case round =>
    obtain ⟨k, hk, rfl, n, hw⟩ := hrel
    have hbel : Below w.heap.size w wr := by rw [hw]; exact below_drewN (Below.refl _ _) n
    have Hw := Lib.hid hw
    clear hw
    by_cases hlt : k < ps.length
    · obtain ⟨g, a, c, rfl, _, _, c0, hp, hs⟩ := (h1.keep (KeepTy.below hbel) (KeepTy.below hbel)).cell k hlt
      obtain ⟨g', a', c', rfl, _, _, d0, hp', _⟩ := (h2.keep (KeepTy.below hbel) (KeepTy.below hbel)).cell k hlt
      have hln := HL.out _ (by simp [hlt] : ps.getD k [] ∈ ps)
      generalize ps.getD k [] = l at *
      obtain ⟨b, hpi, _⟩ := hp.progIn (fun x hx => Nat.le_trans (hs x hx) (by decide))
      obtain ⟨b', hpi', _⟩ := hp'.progIn (fun x hx => Nat.le_trans (hs x hx) (by decide))
      have hc := fun n => same_c a a' b 0 b' 0 c c' l l (wr.drewN n) (hpi.below (below_drewN (Below.refl _ _) n)) (hpi'.below (below_drewN (Below.refl _ _) n)) (by omega) (by omega)
      rw [(sameP_iff l l).2 rfl] at hc
      have Hc := Lib.hid hc
      have i1 : (0 : Int) ≤ (k : Int) := by omega
      have i2 : (k : Int) < (ps.length : Int) := by omega
      clear hc h1 h2 hpi hpi' hp hp' hs hbel
      go_wp2_with fail
      go_quiet (first | (go_at_call 48; exact Calls.quiet_of (Hc.out _)))
      go_wp2_with fail
      go_roundw
      case rel => exact ⟨k + 1, by omega, by go_num, _, drewN_drewN' Hw.out _⟩
      case measure => simp [intOf]; omega
    · have i2 : (ps.length : Int) ≤ (k : Int) := by omega
      go_wp2_with fail
      go_ret
      exact ⟨rfl, _, Hw.out⟩

end Go.Proofs.Ythmnbciefpkpmaa
