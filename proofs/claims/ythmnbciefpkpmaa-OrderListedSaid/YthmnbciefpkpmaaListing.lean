/- The walk of order.Programs. -/
import Derived.Test.YthmnbciefpkpmaaDecode
import Derived.Test.YthmnbciefpkpmaaTreeAt
namespace Go.Proofs.Ythmnbciefpkpmaa
open Go.RowKit

theorem rowBase {w : World} {B B' e s n : Nat} {v : Value} {xs : List Value} (h : w.ownsRow B' e s v n xs) (hB : B ≤ B') : w.ownsRow B e s v n xs := by
  refine ⟨h.1, ?_⟩
  rcases h.2 with h0 | ⟨g, cap', cur, hv, hb, r⟩
  · exact .inl h0
  · exact .inr ⟨g, cap', cur, hv, Nat.le_trans hB hb, r⟩

/-- programs, each in a row of its own, by their slices -/
def PsAt (w : World) (B : Nat) : List (List Ins) → List Value → Prop
  | [], vs => vs = []
  | l :: r, vs => ∃ a c v', vs = .slice a l.length c :: v' ∧ OwnProg w B a c l ∧ (∀ x ∈ l, x.tree.size ≤ 2000000) ∧ PsAt w B r v'

theorem PsAt.keep {w w' : World} {B : Nat} (hk : KeepTy 57 w w') : ∀ {ps : List (List Ins)} {vs : List Value}, PsAt w B ps vs → PsAt w' B ps vs
  | [], _, h => h
  | _ :: _, _, ⟨a, c, v', hv, h1, h2, h3⟩ => ⟨a, c, v', hv, rowKeep h1 hk, h2, PsAt.keep hk h3⟩

theorem PsAt.snoc {w : World} {B : Nat} {l : List Ins} {a : Option Addr} {c : Nat} (h1 : OwnProg w B a c l) (h2 : ∀ x ∈ l, x.tree.size ≤ 2000000) : ∀ {ps : List (List Ins)} {vs : List Value}, PsAt w B ps vs → PsAt w B (ps ++ [l]) (vs ++ [.slice a l.length c])
  | [], vs, h => by
    simp only [PsAt] at h
    subst h
    exact ⟨a, c, [], rfl, h1, h2, rfl⟩
  | _ :: _, _, ⟨a', c', v', hv, k1, k2, k3⟩ => by
    subst hv
    exact ⟨a', c', _, rfl, k1, k2, PsAt.snoc h1 h2 k3⟩

theorem PsAt.len {w : World} {B : Nat} : ∀ {ps : List (List Ins)} {vs : List Value}, PsAt w B ps vs → vs.length = ps.length
  | [], _, h => by simp only [PsAt] at h; subst h; rfl
  | _ :: _, _, ⟨_, _, _, hv, _, _, h3⟩ => by subst hv; simp [PsAt.len h3]

theorem PsAt.at {w : World} {B : Nat} : ∀ {ps : List (List Ins)} {vs : List Value}, PsAt w B ps vs → ∀ i, i < ps.length → ∃ a c, vs[i]? = some (.slice a (ps.getD i []).length c) ∧ OwnProg w B a c (ps.getD i []) ∧ (∀ x ∈ ps.getD i [], x.tree.size ≤ 2000000)
  | [], _, _, i, hi => by simp at hi
  | _ :: _, _, ⟨a, c, v', hv, h1, h2, _⟩, 0, _ => by subst hv; exact ⟨a, c, by simp, by simpa using h1, by simpa using h2⟩
  | _ :: _, _, ⟨_, _, _, hv, _, _, h3⟩, i + 1, hi => by
    subst hv
    obtain ⟨a, c, e1, e2, e3⟩ := PsAt.at h3 i (by simpa using hi)
    exact ⟨a, c, by simpa using e1, by simpa using e2, by simpa using e3⟩

/-- a row of programs -/
def ProgsAt (w : World) (B : Nat) (ao : Option Addr) (cap : Nat) (ps : List (List Ins)) : Prop :=
  ∃ vs, w.ownsRow B 43 1 (.slice ao ps.length cap) ps.length vs ∧ PsAt w B ps vs

theorem ProgsAt.keep {w w' : World} {B cap : Nat} {ao : Option Addr} {ps : List (List Ins)} (h : ProgsAt w B ao cap ps) (h1 : KeepTy 57 w w') (h2 : KeepTy 43 w w') : ProgsAt w' B ao cap ps := by
  obtain ⟨vs, e1, e2⟩ := h
  exact ⟨vs, rowKeep e1 h2, e2.keep h1⟩

theorem progInfo : (Try.prog.info? 43).map (fun i => (i.zero, i.size, i.bytes)) = some (some (.slice none 0 0), 1, 24) := by kernel_rfl

def PrgPost (w : World) (ps : List (List Ins)) (e : Ending) (w' : World) : Prop :=
  (∃ ao cap, e = .returned (.tuple #[.slice ao ps.length cap, .int .i64 0]) ∧ ProgsAt w' w.heap.size ao cap ps) ∧ Below w.heap.size w w'

theorem programs_no (n : Int) (w : World) (h : n < 0 ∨ 11 < n) :
    Calls Try.prog 34 #[.int .i64 n] w fun e w' => e = .returned (.tuple #[.slice none 0 0, .int .i64 2]) ∧ Below w.heap.size w w' := by
  have ht : (decide (n < 0) || decide (11 < n)) = true := by simpa using h
  clear h
  go_enter Try.func34, Try.ntmps34
  go_wp2_with fail
  all_goals (go_ret2; exact ⟨rfl, Below.refl _ _⟩)

theorem base_12 {m : Nat} (h : m ≤ 11) : base (m + 1) ≤ 16777216 := by
  refine Nat.le_trans (base_lim _) ?_
  refine Nat.le_trans (Nat.pow_le_pow_right (by decide) (show 2 * (m + 1) ≤ 24 by omega)) (by decide)

theorem next_tree {t : T} (h : t.size ≤ 61) : nextV (strB (enc t)) = .tuple #[.string (strB (nextL (enc t))), .int .i64 0] := by
  have hv := valid_enc t (by omega)
  have e1 : (strB (enc t)).data.toList = enc t := by simp
  have e2 : (strB (enc t)).size = (enc t).length := by rw [strB_size]
  obtain ⟨k, hw⟩ := enc_word t
  obtain ⟨k', hw', hr⟩ := nextL_word hw
  have hl := hw.len
  have hl' := hw'.len
  rw [enc_len] at hl
  have hk' : k' ≤ k + 1 := by
    rw [rankL_word hw', rankL_word hw] at hr
    have h1 := hw.rk_lt
    rcases Nat.lt_or_ge (k + 1) k' with h2 | h2
    · have := base_mono (show k + 2 ≤ k' by omega)
      have h3 : base (k + 1) < base (k + 2) := base_lt (k + 1)
      have e : base (k + 1) = base k + ways k 1 := rfl
      omega
    · exact h2
  unfold nextV
  rw [if_pos hv, e1, e2]
  have hle : (nxt (enc t) (enc t).length 0 0).length ≤ 2000000 := by
    show (nextL (enc t)).length ≤ _
    omega
  rw [if_pos hle]
  rfl

set_option maxRecDepth 100000 in
set_option maxHeartbeats 4000000 in
theorem programs_c (m : Nat) (w : World) (hm : m ≤ 11) : Calls Try.prog 34 #[.int .i64 m] w (PrgPost w (progs m)) := by
  have hlim := base_12 hm
  have hbb := base_mono (show m + 1 ≤ 30 by omega)
  have hb31 : base 30 < base 31 := base_lt 30
  unfold progs
  have hmi : (m : Int) ≤ 11 := by omega
  have hdec := fun i (hi : i < base 31) w => decode_c (treeAt i) w (Nat.le_trans (treeAt_size hi) (by decide))
  have hnext := fun i (hi : i + 1 < base 31) w => next_c (strB (enc (treeAt i))) w (by have := treeAt_size (show i < base 31 by omega); rw [strB_size, enc_len]; omega)
  have hpairs := fun i (hi : i < base 31) => treeAt_pairs (most := m) hi
  have hp0 : strB (enc (treeAt 0)) = ⟨#[48]⟩ := by rw [treeAt_zero]; rfl
  have hBm : ∃ M, base (m + 1) = M := ⟨_, rfl⟩
  obtain ⟨M, hM⟩ := hBm
  rw [hM] at hlim hbb ⊢
  simp only [hM] at hpairs
  obtain ⟨i0, hi, hz0, hz1, hz2⟩ := info_parts progInfo
  have Hdec := Lib.hid hdec
  have Hnext := Lib.hid hnext
  have Hpairs := Lib.hid hpairs
  have Hp0 := Lib.hid hp0
  clear hdec hnext hpairs hp0 hM hm
  go_enter Try.func34, Try.ntmps34
  go_wp2_with fail
  go_loopw [4, 5] (fun v s wr => ∃ (i : Nat) (ao : Option Addr) (cap : Nat), v = .slice ao (progsTo i).length cap ∧ s = .string (strB (enc (treeAt i))) ∧ i ≤ M ∧ ProgsAt wr w.heap.size ao cap (progsTo i) ∧ Below w.heap.size w wr ∧ w.heap.size ≤ wr.heap.size) (fun _ s _ => match s with | .string b => M + 1 - rankL b.data.toList | _ => 0)
  case atStart => exact ⟨0, none, 0, rfl, by rw [Hp0.out], Nat.zero_le _, ⟨[], World.ownsRow_nil _ _ _ _, rfl⟩, Below.refl _ _, Nat.le_refl _⟩
  case round =>
    obtain ⟨i, ao, cap, rfl, rfl, hiM, hps, hbel, hBw⟩ := hrel
    have hi31 : i < base 31 := by omega
    have hsz := treeAt_size hi31
    have hpr := Hpairs.out i hi31
    have hstr : (strB (enc (treeAt i))).size = (treeAt i).size := by rw [strB_size, enc_len]
    by_cases hlt : i < M
    · have hle := hpr.2 hlt
      have hi31' : i + 1 < base 31 := by omega
      have hd := fun w => Hdec.out i hi31 w
      have hn := fun w => Hnext.out i hi31' w
      rw [next_tree hsz, treeAt_succ hi31'] at hn
      have hrk : rankL (enc (treeAt i)) = i := by obtain ⟨k, _, _, h⟩ := treeAt_spec hi31; exact h
      have hrk' : rankL (enc (treeAt (i + 1))) = i + 1 := by obtain ⟨k, _, _, h⟩ := treeAt_spec hi31'; exact h
      have hle2 : ((strB (enc (treeAt i))).size : Int) / 2 ≤ (m : Int) := by omega
      have hsz1 : (strB (enc (treeAt i))).size ≤ 100 := by omega
      have hlen := progsTo_len i
      have hdata : (strB (enc (treeAt i))).data.toList = enc (treeAt i) := by simp
      have hdata' : (strB (enc (treeAt (i + 1)))).data.toList = enc (treeAt (i + 1)) := by simp
      generalize hs : strB (enc (treeAt i)) = s at *
      generalize hs' : strB (enc (treeAt (i + 1))) = s' at *
      have Hd := Lib.hid hd
      have Hn := Lib.hid hn
      have HS := Lib.hid (And.intro hs' (And.intro (hdata ▸ hrk) (hdata' ▸ hrk')))
      clear hd hn hs hs' hrk hrk' hdata hdata' hpr hsz hstr hle
      cases hdp : decP (treeAt i) with
      | none =>
        rw [hdp] at Hd
        have hpt : progsTo (i + 1) = progsTo i := by simp only [progsTo, hdp]
        have Hpt := Lib.hid hpt
        clear hdp hpt
        generalize progsTo i = ps at *
        go_wp2_with fail
        refine (Hd.out _).mono ?_
        rintro e w2 ⟨rfl, hb2⟩
        go_wp2_with fail
        refine (Hn.out _).mono ?_
        rintro e w3 ⟨rfl, hb3⟩
        have hps3 := (hps.keep (KeepTy.below hb2) (KeepTy.below hb2)).keep (KeepTy.below hb3) (KeepTy.below hb3)
        have hbel3 := hbel.trans ((hb2.mono hBw).trans (hb3.mono (Nat.le_trans hBw hb2.size)))
        clear hps hbel hb2 hb3
        go_wp2_with fail
        go_roundw
        case rel => exact ⟨i + 1, ao, cap, by rw [Hpt.out], by rw [HS.out.1], by omega, by rw [Hpt.out]; exact hps3, hbel3, by have := hbel3.size; omega⟩
        case measure => have := HS.out; simp only []; omega
      | some l =>
        rw [hdp] at Hd
        have hpt : progsTo (i + 1) = progsTo i ++ [l] := by simp only [progsTo, hdp]
        have Hpt := Lib.hid hpt
        clear hdp hpt
        generalize progsTo i = ps at *
        go_wp2_with fail
        refine (Hd.out _).mono ?_
        rintro e w2 ⟨⟨aol, capl, rfl, hownl, hxl⟩, hb2⟩
        obtain ⟨vs, hvs, hpsv⟩ := hps
        have hvs2 := rowKeep hvs (KeepTy.below hb2)
        have hpsv2 := PsAt.snoc (rowBase hownl hBw) hxl (hpsv.keep (KeepTy.below hb2))
        have hbel2 := hbel.trans (hb2.mono hBw)
        have hB2 : w.heap.size ≤ w2.heap.size := Nat.le_trans hBw hb2.size
        have Hl := Lib.hid (And.intro hpsv2 hbel2)
        clear hvs hpsv hpsv2 hbel hb2 hbel2 hownl hxl
        go_wp2_with (at_builtin; refine wpList_append_lies _ rfl _ _ 35 rfl w.heap.size 43 i0 _ 1 24 Try.underlying35 hi hz0 hz1 hz2 rfl (by decide) (.slice ao ps.length cap) ps.length vs rfl (hvs2.alloc _) ⟨w2.heap.size, 0, none⟩ 1 1 [.slice aol l.length capl] rfl rfl (news1 (heap_alloc_new _ _)) (by simp; rfl) (by decide) (by unfold maxLen; omega) (by omega) (by simp; omega) (w2.heap.size + 1) (by simp) ?_)
        intro g2 cap2 w3 hown3 hgrow hat hlt2
        have hvs2' := World.ownsRow.alloc hvs2 (.cells #[.slice aol l.length capl] 43 (0, 0))
        have hbel3 := (Hl.out.2.alloc hB2 (.cells #[.slice aol l.length capl] 43 (0, 0))).grown hgrow (by simp; omega) (fun k hk => (hvs2.lt k hk).1)
        have hps3 : ProgsAt w3 w.heap.size (some ⟨g2, 0, none⟩) cap2 (ps ++ [l]) := by
          refine ⟨vs ++ [.slice aol l.length capl], ?_, ?_⟩
          · rw [List.length_append]; exact hown3
          · exact (Hl.out.1.keep (KeepTy.alloc _ w2 (.cells #[.slice aol l.length capl] 43 (0, 0)))).keep (KeepTy.grown (by decide) hvs2' hgrow)
        have Hl3 := Lib.hid (And.intro hps3 hbel3)
        have hB3 : w.heap.size ≤ w3.heap.size := hbel3.size
        clear hvs2 hvs2' hown3 hgrow hat hlt2 hbel3 hps3 Hl
        go_wp2_with fail
        refine (Hn.out _).mono ?_
        rintro e w4 ⟨rfl, hb4⟩
        have hps4 := Hl3.out.1.keep (KeepTy.below hb4) (KeepTy.below hb4)
        have hbel4 := Hl3.out.2.trans (hb4.mono hB3)
        clear hb4 Hl3
        go_wp2_with fail
        go_roundw
        case rel => exact ⟨i + 1, some ⟨g2, 0, none⟩, cap2, by rw [Hpt.out]; simp, by rw [HS.out.1], by omega, by rw [Hpt.out]; exact hps4, hbel4, by have := hbel4.size; omega⟩
        case measure => have := HS.out; simp only []; omega
    · obtain rfl : i = M := by omega
      have hgt : (m : Int) < ((strB (enc (treeAt i))).size : Int) / 2 := by
        have := mt hpr.1 hlt
        omega
      have hs1 : (strB (enc (treeAt i))).size ≤ 1000 := by omega
      generalize strB (enc (treeAt i)) = s at *
      clear hpr hsz hstr
      go_wp2_with fail
      go_ret2
      exact ⟨⟨ao, cap, rfl, hps⟩, hbel⟩

end Go.Proofs.Ythmnbciefpkpmaa
