/- 'copy' of elements of several cells, as a law for a walk; a program in a block of its own. -/
import Derived.Test.YthmnbciefpkpmaaTwin
import Derived.Laws.CopyRow
import Derived.Tactics
namespace Go.Proofs.Ythmnbciefpkpmaa
open Go.RowKit

theorem run_copy_k {P : Program} (w : World) (dT sT ty elem : TypeId) (g o dLen dCap : Nat) (a : Addr) (sLen sCap sz : Nat) (cur : Array Value) (t : TypeId) (cs : List Value)
    (hu : P.underlying dT = some (.slice elem)) (hs : (P.info? elem).map (·.size) = some sz)
    (hg : w.heap[g]? = some (.cells cur t (0, 0))) (hn : cs.length = Nat.min sLen dLen * sz)
    (hsrc : ∀ j v, cs[j]? = some v → w.cell? (a.add j) = some v) (hfit : o + cs.length ≤ cur.size) (h1 : ∀ v ∈ cs, v.oneCell' = true) :
    (Builtin.copy_ #[dT, sT] ty #[.slice (some ⟨g, o, none⟩) dLen dCap, .slice (some a) sLen sCap]).run P w =
      .ok (goInt (Nat.min sLen dLen)) (w.setRow g (cur.toList.take o ++ cs ++ cur.toList.drop (o + cs.length)).toArray) := by
  have hl := run_loadCells_list (P := P) w a cs hsrc
  have hst := run_storeCells_at P g o t cs 0 cur w hg (by simpa using hfit) h1
  cases hq : P.info? elem with
  | none => simp [hq] at hs
  | some i =>
    have hi : i.size = sz := by simpa [hq] using hs
    simp [Builtin.copy_, run_underlying hu, Builtin.lenOf, Builtin.firstCells, sizeOf, typeInfo, hq, hi, ← hn, hl, hst]

theorem run_copy_none_k {P : Program} (w : World) (dT sT ty elem : TypeId) (g o dLen dCap : Nat) (sz : Nat)
    (hu : P.underlying dT = some (.slice elem)) (hs : (P.info? elem).map (·.size) = some sz) :
    (Builtin.copy_ #[dT, sT] ty #[.slice (some ⟨g, o, none⟩) dLen dCap, .slice none 0 0]).run P w = .ok (goInt 0) w := by
  cases hq : P.info? elem with
  | none => simp [hq] at hs
  | some i => simp [Builtin.copy_, run_underlying hu, Builtin.lenOf, Builtin.firstCells, sizeOf, typeInfo, hq, storeCells]

/-- 'copy(out, src)', the row of out known whole -/
theorem copy_k {P : Program} {w : World} (dT sT ty elem : TypeId) (sz : Nat) (hu : P.underlying dT = some (.slice elem)) (hsz : (P.info? elem).map (·.size) = some sz)
    (g dLen dCap : Nat) (ad : Option Addr) (sLen sCap : Nat) (cur : List Value) (t : TypeId) (hg : w.heap[g]? = some (.cells cur.toArray t (0, 0))) (cs : List Value) (hn : cs.length = Nat.min sLen dLen * sz)
    (hsrc : ∀ a1, ad = some a1 → ∀ j v, cs[j]? = some v → w.cell? (a1.add j) = some v) (hnil : ad = none → sLen = 0 ∧ sCap = 0) (hfit : cs.length ≤ cur.length) (h1 : ∀ v ∈ cs, v.oneCell' = true) :
    ∃ w', (Builtin.copy_ #[dT, sT] ty #[.slice (some ⟨g, 0, none⟩) dLen dCap, .slice ad sLen sCap]).run P w = .ok (goInt (Nat.min sLen dLen)) w' ∧ w'.heap[g]? = some (.cells (cs ++ cur.drop cs.length).toArray t (0, 0)) ∧ Below g w w' := by
  cases ad with
  | some a1 =>
    have hrun := run_copy_k (P := P) w dT sT ty elem g 0 dLen dCap a1 sLen sCap sz cur.toArray t cs hu hsz hg hn (hsrc a1 rfl) (by simpa using hfit) h1
    refine ⟨_, hrun, ?_, ?_⟩
    · simpa using setRow_heap w g _ _ t _ hg
    · exact ⟨rfl, rfl, rfl, by simp [World.setRow], fun k hk => setRow_other w g k _ (by omega)⟩
  | none =>
    obtain ⟨rfl, rfl⟩ := hnil rfl
    have hrun := run_copy_none_k (P := P) w dT sT ty elem g 0 dLen dCap sz hu hsz
    have hm : Nat.min 0 dLen = 0 := Nat.zero_min dLen
    rw [hm] at hn ⊢
    obtain rfl : cs = [] := List.eq_nil_of_length_eq_zero (by simpa using hn)
    exact ⟨w, hrun, by simpa using hg, Below.refl _ _⟩

theorem flat_drop : ∀ (l : List Ins) (k : Nat), (l.flatMap Ins.cells).drop (k * 5) = (l.drop k).flatMap Ins.cells
  | [], k => by simp
  | x :: l, 0 => by simp
  | x :: l, k + 1 => by
    have h := flat_drop l k
    rw [List.flatMap_cons, List.drop_succ_cons, ← h]
    have : (k + 1) * 5 = x.cells.length + k * 5 := by simp [Ins.cells]; omega
    rw [this, List.drop_append]
    simp

/-- a program in a block of its own -/
def BlkProg (w : World) (B g : Nat) (l : List Ins) : Prop := B ≤ g ∧ w.heap[g]? = some (.cells (l.flatMap Ins.cells).toArray 57 (0, 0))

theorem BlkProg.own {w : World} {B g : Nat} {l : List Ins} (h : BlkProg w B g l) (hl : l.length ≤ 1000000) : OwnProg w B (some ⟨g, 0, none⟩) l.length l := by
  refine ⟨flat_len l, Or.inr ⟨g, l.length, _, rfl, h.1, h.2, Nat.le_refl _, by unfold maxLen; omega, by simpa using flat_len l, ?_⟩⟩
  rw [List.take_of_length_le (Nat.le_of_eq (flat_len l))]

theorem BlkProg.cell {w : World} {B g : Nat} {l : List Ins} (h : BlkProg w B g l) (i j : Nat) (hi : i < l.length) (hj : j < 5) : w.cell? ⟨g, i * 5 + j, none⟩ = (l.getD i default).cells[j]? := by
  have h1 : w.cell? ⟨g, i * 5 + j, none⟩ = (l.flatMap Ins.cells).toArray[i * 5 + j]? := by simp [World.cell?, h.2]
  rw [h1, List.getElem?_toArray, flat_get l i j hi hj]

theorem BlkProg.frozen {w : World} {B g : Nat} {l : List Ins} (h : BlkProg w B g l) (i : Nat) : w.frozen? ⟨g, i, none⟩ = false := by
  simp [World.frozen?, h.2]

theorem flat_set (l : List Ins) (i : Nat) (x : Ins) (hi : i < l.length) :
    ((((((l.flatMap Ins.cells).set (i * 5) (.int .i64 x.op)).set (i * 5 + 1) (.int .i64 x.a)).set (i * 5 + 2) (.int .i64 x.b)).set (i * 5 + 3) (.int .i64 x.c)).set (i * 5 + 4) (.string x.tree)) = (l.set i x).flatMap Ins.cells := by
  apply List.ext_getElem?
  intro k
  by_cases hk : k < l.length * 5
  · have h1 : k / 5 < l.length := by omega
    have h2 : k % 5 < 5 := by omega
    have he : k / 5 * 5 + k % 5 = k := by omega
    have hf := flat_get (l.set i x) (k / 5) (k % 5) (by simpa using h1) h2
    have hg := flat_get l (k / 5) (k % 5) h1 h2
    rw [he] at hf hg
    rw [hf]
    simp only [List.getElem?_set, List.length_set, flat_len]
    by_cases hki : k / 5 = i
    · have hx : (l.set i x).getD (k / 5) default = x := by rw [hki]; simp [hi]
      rw [hx]
      have : k % 5 = 0 ∨ k % 5 = 1 ∨ k % 5 = 2 ∨ k % 5 = 3 ∨ k % 5 = 4 := by omega
      rcases this with h | h | h | h | h <;> rw [h]
      · rw [if_neg (by omega), if_neg (by omega), if_neg (by omega), if_neg (by omega), if_pos (by omega), if_pos (by omega)]; rfl
      · rw [if_neg (by omega), if_neg (by omega), if_neg (by omega), if_pos (by omega), if_pos (by omega)]; rfl
      · rw [if_neg (by omega), if_neg (by omega), if_pos (by omega), if_pos (by omega)]; rfl
      · rw [if_neg (by omega), if_pos (by omega), if_pos (by omega)]; rfl
      · rw [if_pos (by omega), if_pos (by omega)]; rfl
    · have hx : (l.set i x).getD (k / 5) default = l.getD (k / 5) default := by
        simp [List.getD_eq_getElem?_getD, Ne.symm hki]
      rw [hx, ← hg]
      rw [if_neg (by omega), if_neg (by omega), if_neg (by omega), if_neg (by omega), if_neg (by omega)]
  · rw [List.getElem?_eq_none (by simp only [List.length_set]; rw [flat_len]; omega), List.getElem?_eq_none (by rw [flat_len, List.length_set]; omega)]

theorem BlkProg.store5 {w : World} {B g : Nat} {l : List Ins} (h : BlkProg w B g l) (i : Nat) (x : Ins) (hi : i < l.length) :
    BlkProg (((((w.setCell ⟨g, i * 5, none⟩ (.int .i64 x.op)).setCell ⟨g, i * 5 + 1, none⟩ (.int .i64 x.a)).setCell ⟨g, i * 5 + 2, none⟩ (.int .i64 x.b)).setCell ⟨g, i * 5 + 3, none⟩ (.int .i64 x.c)).setCell ⟨g, i * 5 + 4, none⟩ (.string x.tree)) B g (l.set i x) := by
  refine ⟨h.1, ?_⟩
  rw [← flat_set l i x hi]
  simp [World.setCell, Array.getElem?_modify, h.2]

def zeroIns : Ins := ⟨0, 0, 0, 0, ⟨#[]⟩⟩
def moveIns : Ins := ⟨1, 0, 0, 0, ⟨#[]⟩⟩

theorem made_zero (n : Nat) : (madeCells (Value.cells (.agg #[.int .i64 0, .int .i64 0, .int .i64 0, .int .i64 0, .string ⟨#[]⟩])) (n * 5)).toList = (List.replicate n zeroIns).flatMap Ins.cells := by
  apply List.ext_getElem?
  intro k
  by_cases hk : k < n * 5
  · have h1 : k / 5 < n := by omega
    have h2 : k % 5 < 5 := by omega
    have he : k = k / 5 * 5 + k % 5 := by omega
    have hf := flat_get (List.replicate n zeroIns) (k / 5) (k % 5) (by simpa using h1) h2
    rw [← he] at hf
    rw [hf]
    have hz : (List.replicate n zeroIns).getD (k / 5) default = zeroIns := by simp [h1]
    rw [hz]
    simp only [madeCells, Array.toList_map, List.getElem?_map, Array.toList_range, List.getElem?_range hk, Option.map_some]
    have : k % 5 = 0 ∨ k % 5 = 1 ∨ k % 5 = 2 ∨ k % 5 = 3 ∨ k % 5 = 4 := by omega
    have hs : (Value.cells (.agg #[.int .i64 0, .int .i64 0, .int .i64 0, .int .i64 0, .string ⟨#[]⟩])).size = 5 := rfl
    rw [hs]
    rcases this with h | h | h | h | h <;> rw [h] <;> rfl
  · rw [List.getElem?_eq_none (by simp [madeCells]; omega), List.getElem?_eq_none (by rw [flat_len]; simp; omega)]

end Go.Proofs.Ythmnbciefpkpmaa
