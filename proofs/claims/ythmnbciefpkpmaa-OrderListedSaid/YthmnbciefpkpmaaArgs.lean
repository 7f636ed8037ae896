/- What a call is handed: programs, strings, pairs of numbers, opened for a walk. -/
import Derived.Test.YthmnbciefpkpmaaTwin
import Derived.Test.YthmnbciefpkpmaaRows
import Derived.WalkKit
import Derived.ProofKit
import Derived.OpenShut
import Derived.ShutString
import Derived.ChangeOld
import Derived.Below
import Derived.SizedLaws
import Derived.Deep.Slices
namespace Go.Proofs.Ythmnbciefpkpmaa
open Go.ChangeShapes Go.WideShapes Go.ChangeAt Go.RowKit

theorem own : ownKnob Try.prog.godebug = none := by kernel_rfl
theorem laidOut : laidOutB Try.prog = true := by kernel_rfl
theorem cellsInstr : Try.prog.cellsOf 57 = 5 := by kernel_rfl
theorem cellsInt : Try.prog.cellsOf 3 = 1 := by kernel_rfl
theorem cellsStr : Try.prog.cellsOf 9 = 1 := by kernel_rfl
theorem bytesInstr : Try.prog.bytesOf 57 = 48 := by kernel_rfl

theorem weightsAll_mem {H : Type} {P : Program} {e : TypeId} : ∀ {l : List (DataW H)} {d : DataW H}, d ∈ l → ∀ n ∈ d.weights P e, n ∈ DataW.weightsAll P e l
  | d' :: r, d, hd, n, hn => by
    simp only [DataW.weightsAll, List.mem_append]
    rcases List.mem_cons.1 hd with rfl | h
    · exact Or.inl hn
    · exact Or.inr (weightsAll_mem h n hn)

section
variable {H : Type} {enc : TypeId × Value → H} {W : World} {base : Nat} {sp : Nat → Bool} {held : Bool}

set_option maxRecDepth 100000 in
/-- an instruction, read -/
theorem open_ins {n : Nat} {cs : List Value} {x : DataW H × List MemPlace} (h : DataW.trod enc Try.prog W base sp held n 57 cs = some x) :
    ∃ z : Ins, cs = z.cells ∧ x.1 = .agg [.lit (.int .i64 z.op), .lit (.int .i64 z.a), .lit (.int .i64 z.b), .lit (.int .i64 z.c), .lit (.string z.tree.data.toList)] := by
  obtain ⟨xs, m, _, rfl, hl, hx, hf⟩ := DataW.trod_struct Try.underlying57 h
  rw [cellsInstr] at hl
  match cs, hl with
  | [v0, v1, v2, v3, v4], _ =>
    match xs, hx with
    | [x0, x1, x2, x3, x4], _ =>
      have h0 : DataW.trod enc Try.prog W base sp held m 3 (([v0, v1, v2, v3, v4].drop 0).take (Try.prog.cellsOf 3)) = some x0 := hf 0 _ rfl
      rw [cellsInt] at h0
      change DataW.trod enc Try.prog W base sp held m 3 [v0] = some x0 at h0
      have h1 : DataW.trod enc Try.prog W base sp held m 3 (([v0, v1, v2, v3, v4].drop 1).take (Try.prog.cellsOf 3)) = some x1 := hf 1 _ rfl
      rw [cellsInt] at h1
      change DataW.trod enc Try.prog W base sp held m 3 [v1] = some x1 at h1
      have h2 : DataW.trod enc Try.prog W base sp held m 3 (([v0, v1, v2, v3, v4].drop 2).take (Try.prog.cellsOf 3)) = some x2 := hf 2 _ rfl
      rw [cellsInt] at h2
      change DataW.trod enc Try.prog W base sp held m 3 [v2] = some x2 at h2
      have h3 : DataW.trod enc Try.prog W base sp held m 3 (([v0, v1, v2, v3, v4].drop 3).take (Try.prog.cellsOf 3)) = some x3 := hf 3 _ rfl
      rw [cellsInt] at h3
      change DataW.trod enc Try.prog W base sp held m 3 [v3] = some x3 at h3
      have h4 : DataW.trod enc Try.prog W base sp held m 9 (([v0, v1, v2, v3, v4].drop 4).take (Try.prog.cellsOf 9)) = some x4 := hf 4 _ rfl
      rw [cellsStr] at h4
      change DataW.trod enc Try.prog W base sp held m 9 [v4] = some x4 at h4
      obtain ⟨a0, e0, rfl, _⟩ := DataW.trod_int Try.underlying3 h0
      obtain ⟨a1, e1, rfl, _⟩ := DataW.trod_int Try.underlying3 h1
      obtain ⟨a2, e2, rfl, _⟩ := DataW.trod_int Try.underlying3 h2
      obtain ⟨a3, e3, rfl, _⟩ := DataW.trod_int Try.underlying3 h3
      obtain ⟨s, e4, rfl, _⟩ := DataW.trod_string Try.underlying9 h4
      simp only [List.cons.injEq, and_true] at e0 e1 e2 e3 e4
      subst e0 e1 e2 e3 e4
      exact ⟨⟨a0, a1, a2, a3, s⟩, rfl, rfl⟩

set_option maxRecDepth 100000 in
/-- a program, read -/
theorem open_prog {a : Option Addr} {len cap : Nat} {d : DataW H} {ps : List MemPlace} (hd : DataW.Trod enc Try.prog W base sp held 43 (.slice a len cap) d ps)
    (hw : ∀ n ∈ d.weights Try.prog 43, n ≤ reachBytes) :
    ∃ (b o : Nat) (l : List Ins), ProgIn W a b o l ∧ l.length = len ∧ (a = none → cap = 0) ∧ len ≤ 2932031007402 := by
  obtain ⟨fuel, hf⟩ := hd
  rcases Deep.open_slice Try.underlying43 hf with ⟨hcs, _⟩ | ⟨x, l, c, m, n, D, Pl, hcs, _, hl, hm, hmm, hx, hall⟩
  · simp [Value.cells] at hcs
    obtain ⟨rfl, rfl, rfl⟩ := hcs
    exact ⟨0, 0, [], ⟨fun h => absurd rfl h, fun i hi => absurd hi (Nat.not_lt_zero i), fun h => absurd rfl h, fun x hx => by simp at hx⟩, rfl, fun _ => rfl, by omega⟩
  · simp [Value.cells] at hcs
    obtain ⟨rfl, rfl, rfl⟩ := hcs
    have hlm : len ≤ m := by rw [hmm]; split <;> omega
    simp only [Prod.mk.injEq] at hx
    obtain ⟨rfl, rfl⟩ := hx
    have hex : ∀ i, i < len → ∃ z : Ins, W.cells? base (x.add (i * 5)) 5 = some z.cells ∧ D i = .agg [.lit (.int .i64 z.op), .lit (.int .i64 z.a), .lit (.int .i64 z.b), .lit (.int .i64 z.c), .lit (.string z.tree.data.toList)] := by
      intro i hi
      obtain ⟨cs', h1, h2⟩ := hall i (by omega)
      obtain ⟨z, rfl, hz⟩ := open_ins h2
      rw [cellsInstr] at h1
      exact ⟨z, h1, hz⟩
    obtain ⟨X, hX⟩ := Deep.choose_lt hex
    obtain ⟨b, o, spot⟩ := x
    have hlen48 : len ≤ 2932031007402 := by
      have := hw ((len + (m - len)) * Try.prog.bytesOf 57) (by simp [DataW.weights, Try.underlying43])
      rw [bytesInstr] at this
      have hr : reachBytes = 140737488351232 := rfl
      omega
    have hget : ∀ i, i < len → ((List.range len).map X).getD i default = X i := by
      intro i hi
      simp [hi]
    have hcell : ∀ i, i < len → ∀ j, j < 5 → W.cell? (((⟨b, o, spot⟩ : Addr).add (i * 5)).add j) = (X i).cells[j]? := by
      intro i hi j hj
      exact (World.cells?_some (hX i hi).1).2.2 j hj
    have hspot : 0 < len → spot = none := by
      intro h0
      have h1 := hcell 0 h0 0 (by omega)
      have h2 : W.cell? (⟨b, o, spot⟩ : Addr) = some (.int .i64 (X 0).op) := by simpa [Addr.add, Ins.cells] using h1
      exact World.cell?_spot h2
    refine ⟨b, o, (List.range len).map X, ⟨?_, ?_, ?_, ?_⟩, by simp, fun h => (by cases h), hlen48⟩
    · intro hne
      have h0 : 0 < len := by
        rcases Nat.eq_zero_or_pos len with h0 | h0
        · subst h0; exact absurd rfl hne
        · exact h0
      rw [hspot h0]
    · intro i hi
      have hi2 : i < len := by simpa using hi
      rw [hget i hi2]
      have hs := hspot (by omega)
      subst hs
      have e : ∀ j, j < 5 → W.cell? ⟨b, o + i * 5 + j, none⟩ = (X i).cells[j]? := by
        intro j hj
        have := hcell i hi2 j hj
        rw [add_plain, add_plain] at this
        exact this
      exact ⟨e 0 (by omega), e 1 (by omega), e 2 (by omega), e 3 (by omega), e 4 (by omega)⟩
    · intro hne
      have h0 : 0 < len := by
        rcases Nat.eq_zero_or_pos len with h0 | h0
        · subst h0; exact absurd rfl hne
        · exact h0
      have h1 := hcell 0 h0 0 (by omega)
      have hs := hspot h0
      subst hs
      have h2 : W.cell? (⟨b, o, none⟩ : Addr) = some (.int .i64 (X 0).op) := by simpa [Addr.add, Ins.cells] using h1
      unfold World.cell? at h2
      cases hb : W.heap[b]? with
      | none => simp [hb] at h2
      | some y => exact (Array.getElem?_eq_some_iff.1 hb).1
    · intro z hz
      simp only [List.mem_map, List.mem_range] at hz
      obtain ⟨i, hi, rfl⟩ := hz
      have hmem : D i ∈ (List.range len).map D := List.mem_map.2 ⟨i, List.mem_range.2 hi, rfl⟩
      have h1 := hw (X i).tree.data.toList.length (by
        simp only [DataW.weights, Try.underlying43, List.mem_cons, List.mem_append]
        refine Or.inr (Or.inl (weightsAll_mem hmem _ ?_))
        rw [(hX i hi).2]
        simp [DataW.weights, DataW.weightsEach, Try.underlying57])
      have hr : reachBytes = 140737488351232 := rfl
      have h2 : (X i).tree.data.toList.length = (X i).tree.size := by simp
      omega

set_option maxRecDepth 100000 in
/-- two numbers, read -/
theorem open_two {v : Value} {d : DataW H} {ps : List MemPlace} (hv : ∃ cs, v = .agg cs) (hd : DataW.Trod enc Try.prog W base sp held 85 v d ps) :
    ∃ n0 n1 : Int, v = .agg #[.int .i64 n0, .int .i64 n1] := by
  obtain ⟨cs, rfl⟩ := hv
  obtain ⟨fuel, hf⟩ := hd
  obtain ⟨xs, m, _, _, hl, hx, hall⟩ := DataW.trod_array Try.underlying85 hf
  have hc2 : Try.prog.cellsOf 85 = 2 := by kernel_rfl
  rw [hc2] at hl
  have hl2 : cs.toList.length = 2 := hl
  match hcs : cs.toList, hl2 with
  | [v0, v1], _ =>
    simp only [Value.cells, hcs] at hall
    match xs, hx with
    | [x0, x1], _ =>
      have h0 := hall 0 (by omega)
      have h1 := hall 1 (by omega)
      rw [cellsInt] at h0 h1
      change DataW.trod enc Try.prog W base sp held m 3 [v0] = some x0 at h0
      change DataW.trod enc Try.prog W base sp held m 3 [v1] = some x1 at h1
      obtain ⟨a0, e0, _⟩ := DataW.trod_int Try.underlying3 h0
      obtain ⟨a1, e1, _⟩ := DataW.trod_int Try.underlying3 h1
      simp only [List.cons.injEq, and_true] at e0 e1
      subst e0 e1
      exact ⟨a0, a1, by rw [← Array.toArray_toList (xs := cs), hcs]⟩

end

end Go.Proofs.Ythmnbciefpkpmaa
