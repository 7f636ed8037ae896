/- Programs in rows that the call has made; the contracts of the copies 'twin'. -/
import Derived.Test.YthmnbciefpkpmaaIns
import Derived.Laws.AppendOwnNone
namespace Go.Proofs.Ythmnbciefpkpmaa
open Go.RowKit

/-- a program in a row that the call has made -/
def OwnProg (w : World) (B : Nat) (ao : Option Addr) (cap : Nat) (l : List Ins) : Prop := w.ownsRow B 57 5 (.slice ao l.length cap) l.length (l.flatMap Ins.cells)

theorem flat_get : ∀ (l : List Ins) (i j : Nat), i < l.length → j < 5 → (l.flatMap Ins.cells)[i * 5 + j]? = (l.getD i default).cells[j]?
  | [], i, j, hi, _ => by simp at hi
  | x :: r, 0, j, _, hj => by
    simp only [List.flatMap_cons]
    rw [List.getElem?_append_left (by simp [Ins.cells]; omega)]
    simp
  | x :: r, i + 1, j, hi, hj => by
    simp only [List.flatMap_cons]
    rw [List.getElem?_append_right (by simp [Ins.cells]; omega)]
    have : (i + 1) * 5 + j - x.cells.length = i * 5 + j := by simp [Ins.cells]; omega
    rw [this, flat_get r i j (by simpa using hi) hj]
    simp

theorem flat_len (l : List Ins) : (l.flatMap Ins.cells).length = l.length * 5 := by
  induction l with
  | nil => rfl
  | cons x r ih => simp [List.flatMap_cons, ih, Ins.cells]; omega

theorem OwnProg.progIn {w : World} {B cap : Nat} {ao : Option Addr} {l : List Ins} (h : OwnProg w B ao cap l) (hs : ∀ x ∈ l, x.tree.size ≤ 140737488351232) :
    ∃ b, ProgIn w ao b 0 l ∧ (l ≠ [] → B ≤ b) := by
  rcases h.2 with ⟨h0, h1⟩ | ⟨g, cap', cur, hv, hB, hh, _⟩
  · have : l = [] := List.length_eq_zero_iff.1 h1
    subst this
    exact ⟨0, ⟨fun h => absurd rfl h, fun i hi => by simp at hi, fun h => absurd rfl h, hs⟩, fun h => absurd rfl h⟩
  · simp only [Value.slice.injEq] at hv
    obtain ⟨rfl, _, rfl⟩ := hv
    refine ⟨g, ⟨fun _ => rfl, fun i hi => ?_, fun _ => lt_of_block hh, hs⟩, fun _ => hB⟩
    have c : ∀ j, j < 5 → w.cell? ⟨g, 0 + i * 5 + j, none⟩ = (l.getD i default).cells[j]? := fun j hj => by
      rw [← flat_get l i j hi hj, Nat.zero_add]
      exact h.cellAt (i * 5 + j) (by omega)
    exact ⟨by simpa [Ins.cells] using c 0 (by omega), by simpa [Ins.cells] using c 1 (by omega), by simpa [Ins.cells] using c 2 (by omega), by simpa [Ins.cells] using c 3 (by omega), by simpa [Ins.cells] using c 4 (by omega)⟩

/-- the cells of a program, as an append reads them -/
theorem ProgIn.news {w : World} {b o : Nat} {l : List Ins} (h : ProgIn w (some ⟨b, o, none⟩) b o l) : ∀ j u, (l.flatMap Ins.cells)[j]? = some u → w.cell? ((⟨b, o, none⟩ : Addr).add j) = some u := fun j u hu => by
  have hj : j < l.length * 5 := by rw [← flat_len]; exact (List.getElem?_eq_some_iff.1 hu).1
  have hi : j / 5 < l.length := by omega
  have e : j = j / 5 * 5 + j % 5 := by omega
  have hr : j % 5 < 5 := by omega
  rw [e, flat_get l _ _ hi hr] at hu
  have e2 : (⟨b, o, none⟩ : Addr).add j = ⟨b, o + j / 5 * 5 + j % 5, none⟩ := by
    have e3 : o + j / 5 * 5 + j % 5 = o + j := by omega
    rw [e3]
    unfold Addr.add
    split
    · simp
    · rfl
  rw [e2]
  obtain ⟨c0, c1, c2, c3, c4⟩ := h.ins _ hi
  generalize l.getD (j / 5) default = x at *
  have : j % 5 = 0 ∨ j % 5 = 1 ∨ j % 5 = 2 ∨ j % 5 = 3 ∨ j % 5 = 4 := by omega
  rcases this with h | h | h | h | h <;> rw [h] at hu ⊢ <;> simp only [Ins.cells, List.getElem?_cons_zero, List.getElem?_cons_succ, Option.some.injEq] at hu <;> subst hu
  · simpa using c0
  · exact c1
  · exact c2
  · exact c3
  · exact c4

theorem cells_one (l : List Ins) : ∀ u ∈ l.flatMap Ins.cells, u.oneCell' = true := by
  intro u hu
  simp only [List.mem_flatMap, Ins.cells, List.mem_cons, List.not_mem_nil, or_false] at hu
  obtain ⟨x, _, h | h | h | h | h⟩ := hu <;> subst h <;> rfl

theorem Try.info57 : (Try.prog.info? 57).map (fun i => (i.zero, i.size, i.bytes)) = some (some (.agg #[.int .i64 0, .int .i64 0, .int .i64 0, .int .i64 0, .string ⟨#[]⟩]), 5, 48) := by kernel_rfl

theorem own_shape {w : World} {B e s n : Nat} {v : Value} {xs : List Value} (h : w.ownsRow B e s v n xs) : ∃ ao cap, v = .slice ao n cap := by
  rcases h.2 with ⟨rfl, rfl⟩ | ⟨g, cap, cur, rfl, _⟩
  · exact ⟨none, 0, rfl⟩
  · exact ⟨_, cap, rfl⟩

set_option maxRecDepth 100000 in
theorem top_twin_c (ao : Option Addr) (b o cap : Nat) (l : List Ins) (w : World) (hp : ProgIn w ao b o l) (hlen : l.length ≤ 2932031007402) (hnil : ao = none → cap = 0) :
    Calls Try.prog 71 #[.slice ao l.length cap] w fun e w' => (∃ ao' cap', e = .returned (.slice ao' l.length cap') ∧ OwnProg w' w.heap.size ao' cap' l) ∧ Below w.heap.size w w' := by
  obtain ⟨i0, hi, hz0, hz1, hz2⟩ := info_parts Try.info57
  have hnew : (w.alloc (.cells #[] 57)).ownsRow w.heap.size 57 5 (.slice (some ⟨w.heap.size, 0, none⟩) 0 0) 0 [] := ⟨by simp, .inr ⟨_, 0, #[], rfl, Nat.le_refl _, heap_at _ _ _ rfl, Nat.le_refl _, by omega, by simp, by simp⟩⟩
  cases l with
  | nil =>
    simp only [List.length_nil]
    cases ao with
    | none =>
      obtain rfl := hnil rfl
      go_enter Try.func71, Try.ntmps71
      go_wp2_with (at_builtin; refine wpList_append_own_none rfl _ _ 43 rfl w.heap.size 57 i0 5 Try.underlying43 hi _ 0 [] rfl hnew rfl ?_)
      go_ret
      exact ⟨⟨_, _, rfl, hnew⟩, (Below.refl _ _).alloc (Nat.le_refl _) _⟩
    | some a =>
      go_enter Try.func71, Try.ntmps71
      go_wp2_with (at_builtin; refine wpList_append_own _ rfl _ _ 43 rfl w.heap.size 57 i0 _ 5 48 Try.underlying43 hi hz0 hz1 hz2 rfl (by omega) (.slice (some ⟨w.heap.size, 0, none⟩) 0 0) 0 [] rfl hnew a 0 cap [] rfl rfl (by simp) (by simp) (by unfold maxLen; omega) (by omega) (by simp) ?_; intro v' w1 hown1 hgrow _)
      obtain ⟨ao', cap', rfl⟩ := own_shape hown1
      go_ret
      exact ⟨⟨_, _, rfl, hown1⟩, ((Below.refl _ _).alloc (Nat.le_refl _) _).grown hgrow (by simp) (fun k hk => by simp [Value.ownBlock] at hk; omega)⟩
  | cons x r =>
    obtain rfl := hp.at_ (by simp)
    have hp2 := (hp.below ((Below.refl _ _).alloc (Nat.le_refl _) (.cells #[] 57))).news
    have hone := cells_one (x :: r)
    have hfl := flat_len (x :: r)
    generalize hL : (x :: r) = L at *
    have HL := Lib.hid hL
    clear hL
    have hl0 : 0 < L.length := by rw [← HL.out]; simp
    generalize hn : L.length = n at *
    have Hn := Lib.hid hn
    clear hn
    go_enter Try.func71, Try.ntmps71
    go_wp2_with (at_builtin; refine wpList_append_lies _ rfl _ _ 43 rfl w.heap.size 57 i0 _ 5 48 Try.underlying43 hi hz0 hz1 hz2 rfl (by omega) (.slice (some ⟨w.heap.size, 0, none⟩) 0 0) 0 [] rfl hnew ⟨b, o, none⟩ n cap (L.flatMap Ins.cells) rfl hfl hp2 hone hl0 (by unfold maxLen; omega) (by omega) (by simp) (w.heap.size + 1) (by simp) ?_; intro g cap' w1 hown1 hgrow hat hlt)
    simp only [Nat.zero_add, List.nil_append] at hown1
    go_wp2_with fail
    go_ret
    exact ⟨⟨some ⟨g, 0, none⟩, cap', rfl, by unfold OwnProg; rw [Hn.out]; exact hown1⟩, ((Below.refl _ _).alloc (Nat.le_refl _) _).grown hgrow (by simp) (fun k hk => by simp [Value.ownBlock] at hk; omega)⟩
set_option maxRecDepth 100000 in
theorem r02_Twin_c (ao : Option Addr) (b o cap : Nat) (l : List Ins) (w : World) (hp : ProgIn w ao b o l) (hlen : l.length ≤ 2932031007402) (hnil : ao = none → cap = 0) :
    Calls Try.prog 45 #[.slice ao l.length cap] w fun e w' => (∃ ao' cap', e = .returned (.slice ao' l.length cap') ∧ OwnProg w' w.heap.size ao' cap' l) ∧ Below w.heap.size w w' := by
  obtain ⟨i0, hi, hz0, hz1, hz2⟩ := info_parts Try.info57
  have hnew : (w.alloc (.cells #[] 57)).ownsRow w.heap.size 57 5 (.slice (some ⟨w.heap.size, 0, none⟩) 0 0) 0 [] := ⟨by simp, .inr ⟨_, 0, #[], rfl, Nat.le_refl _, heap_at _ _ _ rfl, Nat.le_refl _, by omega, by simp, by simp⟩⟩
  cases l with
  | nil =>
    simp only [List.length_nil]
    cases ao with
    | none =>
      obtain rfl := hnil rfl
      go_enter Try.func45, Try.ntmps45
      go_wp2_with (at_builtin; refine wpList_append_own_none rfl _ _ 43 rfl w.heap.size 57 i0 5 Try.underlying43 hi _ 0 [] rfl hnew rfl ?_)
      go_ret
      exact ⟨⟨_, _, rfl, hnew⟩, (Below.refl _ _).alloc (Nat.le_refl _) _⟩
    | some a =>
      go_enter Try.func45, Try.ntmps45
      go_wp2_with (at_builtin; refine wpList_append_own _ rfl _ _ 43 rfl w.heap.size 57 i0 _ 5 48 Try.underlying43 hi hz0 hz1 hz2 rfl (by omega) (.slice (some ⟨w.heap.size, 0, none⟩) 0 0) 0 [] rfl hnew a 0 cap [] rfl rfl (by simp) (by simp) (by unfold maxLen; omega) (by omega) (by simp) ?_; intro v' w1 hown1 hgrow _)
      obtain ⟨ao', cap', rfl⟩ := own_shape hown1
      go_ret
      exact ⟨⟨_, _, rfl, hown1⟩, ((Below.refl _ _).alloc (Nat.le_refl _) _).grown hgrow (by simp) (fun k hk => by simp [Value.ownBlock] at hk; omega)⟩
  | cons x r =>
    obtain rfl := hp.at_ (by simp)
    have hp2 := (hp.below ((Below.refl _ _).alloc (Nat.le_refl _) (.cells #[] 57))).news
    have hone := cells_one (x :: r)
    have hfl := flat_len (x :: r)
    generalize hL : (x :: r) = L at *
    have HL := Lib.hid hL
    clear hL
    have hl0 : 0 < L.length := by rw [← HL.out]; simp
    generalize hn : L.length = n at *
    have Hn := Lib.hid hn
    clear hn
    go_enter Try.func45, Try.ntmps45
    go_wp2_with (at_builtin; refine wpList_append_lies _ rfl _ _ 43 rfl w.heap.size 57 i0 _ 5 48 Try.underlying43 hi hz0 hz1 hz2 rfl (by omega) (.slice (some ⟨w.heap.size, 0, none⟩) 0 0) 0 [] rfl hnew ⟨b, o, none⟩ n cap (L.flatMap Ins.cells) rfl hfl hp2 hone hl0 (by unfold maxLen; omega) (by omega) (by simp) (w.heap.size + 1) (by simp) ?_; intro g cap' w1 hown1 hgrow hat hlt)
    simp only [Nat.zero_add, List.nil_append] at hown1
    go_wp2_with fail
    go_ret
    exact ⟨⟨some ⟨g, 0, none⟩, cap', rfl, by unfold OwnProg; rw [Hn.out]; exact hown1⟩, ((Below.refl _ _).alloc (Nat.le_refl _) _).grown hgrow (by simp) (fun k hk => by simp [Value.ownBlock] at hk; omega)⟩

end Go.Proofs.Ythmnbciefpkpmaa
