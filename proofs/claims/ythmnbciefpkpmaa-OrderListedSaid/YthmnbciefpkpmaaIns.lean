/- Programs in memory: the instructions of a slice. -/
import Derived.Test.YthmnbciefpkpmaaMach
import Derived.Test.YthmnbciefpkpmaaProg
import Derived.Deep.LoopGhost
import Derived.Deep.QuietTactic
import Derived.BigQuiet
import Derived.Deep.RegionLaw
import Derived.Deep.RegionHeld3
import Derived.Deep.DrawnRows
namespace Go.Proofs.Ythmnbciefpkpmaa
open Go.RowKit

/-- an instruction lies at a place -/
structure InsAt (w : World) (b o : Nat) (x : Ins) : Prop where
  c0 : w.cell? ⟨b, o, none⟩ = some (.int .i64 x.op)
  c1 : w.cell? ⟨b, o + 1, none⟩ = some (.int .i64 x.a)
  c2 : w.cell? ⟨b, o + 2, none⟩ = some (.int .i64 x.b)
  c3 : w.cell? ⟨b, o + 3, none⟩ = some (.int .i64 x.c)
  c4 : w.cell? ⟨b, o + 4, none⟩ = some (.string x.tree)

/-- the slice value is the program 'l' -/
structure ProgIn (w : World) (ao : Option Addr) (b o : Nat) (l : List Ins) : Prop where
  at_ : l ≠ [] → ao = some ⟨b, o, none⟩
  ins : ∀ i, i < l.length → InsAt w b (o + i * 5) (l.getD i default)
  lt : l ≠ [] → b < w.heap.size
  sz : ∀ x ∈ l, x.tree.size ≤ 140737488351232

theorem InsAt.below {B : Nat} {w w' : World} {b o : Nat} {x : Ins} (h : InsAt w b o x) (hb : Below B w w') (hB : b < B) : InsAt w' b o x :=
  ⟨(hb.cell (by exact hB)).trans h.c0, (hb.cell (by exact hB)).trans h.c1, (hb.cell (by exact hB)).trans h.c2, (hb.cell (by exact hB)).trans h.c3, (hb.cell (by exact hB)).trans h.c4⟩

theorem ProgIn.below {w w' : World} {ao : Option Addr} {b o : Nat} {l : List Ins} (h : ProgIn w ao b o l) (hb : Below w.heap.size w w') : ProgIn w' ao b o l :=
  ⟨h.at_, fun i hi => (h.ins i hi).below hb (h.lt (by intro e; subst e; simp at hi)), fun hl => Nat.lt_of_lt_of_le (h.lt hl) hb.size, h.sz⟩

theorem ProgIn.drew {w : World} {ao : Option Addr} {b o : Nat} {l : List Ins} (h : ProgIn w ao b o l) : ProgIn w.drew ao b o l := h.below ((Below.refl _ _).drew)

theorem register_c (n : Int) (w : World) : Calls Try.prog 128 #[.int .i64 n] w fun e w' => e = .returned (.bool (regB n)) ∧ w = w' := by
  unfold regB
  by_cases h0 : 0 ≤ n
  · by_cases h1 : n < 32
    · go_enter Try.func128, Try.ntmps128
      go_wp2
      go_ret
      exact ⟨by simp [h0, h1], rfl⟩
    · go_enter Try.func128, Try.ntmps128
      go_wp2
      go_ret
      exact ⟨by simp; omega, rfl⟩
  · go_enter Try.func128, Try.ntmps128
    go_wp2
    go_ret
    exact ⟨by simp; omega, rfl⟩

set_option maxHeartbeats 1000000 in
theorem regs_c (ao : Option Addr) (b o cap : Nat) (l : List Ins) (w : World) (hp : ProgIn w ao b o l) (hl : l.length ≤ 1000000) (hr : regsTo l 0 ≤ 1000000) :
    Calls Try.prog 88 #[.slice ao l.length cap] w fun e w' => e = .returned (.int .i64 (regsTo l 0 + 1)) ∧ Below w.heap.size w w' := by
  have h0 := le_regsTo l 0
  generalize hR : regsTo l 0 = R at *
  have HR := Lib.hid hR
  clear hR
  go_enter Try.func88, Try.ntmps88
  go_wp2_with fail
  go_loopw [3, 4] (fun n i wr => ∃ (k : Nat) (m : Int), k ≤ l.length ∧ i = .int .i64 k ∧ n = .int .i64 m ∧ 0 ≤ m ∧ regsTo (l.drop k) m = R ∧ Below w.heap.size w wr) (fun _ i _ => l.length - (intOf i).toNat)
  case atStart => exact ⟨0, 0, by omega, rfl, rfl, by omega, HR.out, Below.refl _ _⟩
  case round =>
    obtain ⟨k, m, hk, rfl, rfl, hm0, hrt, hbel⟩ := hrel
    have hmR : m ≤ R := by rw [← hrt]; exact le_regsTo _ _
    have Hrt := Lib.hid hrt
    clear hrt
    by_cases hlt : k < l.length
    · have hi := (hp.ins k hlt).below hbel (hp.lt (by intro e; subst e; simp at hlt))
      obtain rfl := hp.at_ (by intro e; subst e; simp at hlt)
      have hdrop := drop_ins l k hlt
      generalize l.getD k default = x at *
      have Hdrop := Lib.hid hdrop
      obtain ⟨c0, c1, c2, c3, c4⟩ := hi
      clear hdrop c4
      by_cases h5 : x.op = 5
      · have h5b : (x.op != 5) = false := by simp [h5]
        go_wp2_with fail
        go_roundw
        case rel =>
          refine ⟨k + 1, mxi m x.a, by omega, by go_num, rfl, Int.le_trans hm0 (le_mxi1 _ _), ?_, hbel⟩
          have := Hrt.out
          rw [Hdrop.out] at this
          simpa [regsTo, h5] using this
        case measure => simp [intOf]; omega
      · have h5b : (x.op != 5) = true := by simp [h5]
        by_cases hx : m < x.a
        all_goals
          go_wp2_with fail
          go_quiet (fail)
          go_wp2_with fail
          go_roundw
          case rel =>
            refine ⟨k + 1, mxi (mxi (mxi m x.a) x.b) x.c, by omega, by go_num, ?_, Int.le_trans hm0 (Int.le_trans (le_mxi1 _ _) (Int.le_trans (le_mxi1 _ _) (le_mxi1 _ _))), ?_, below_drewN hbel _⟩
            · first | (simp only [mxi, if_pos hx]; done) | (simp only [mxi, if_neg (Int.not_lt.2 hx)]; done)
            · have := Hrt.out
              rw [Hdrop.out] at this
              simpa [regsTo, h5] using this
          case measure => simp [intOf]; omega
    · have hm : m = R := by
        have := Hrt.out
        rwa [List.drop_of_length_le (by omega)] at this
      subst hm
      go_wp2_with fail
      go_ret
      exact ⟨rfl, hbel⟩

end Go.Proofs.Ythmnbciefpkpmaa
