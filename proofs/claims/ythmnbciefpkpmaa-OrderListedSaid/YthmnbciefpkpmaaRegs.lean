/- Registers and trees of a machine in memory. -/
import Derived.Test.YthmnbciefpkpmaaMach
import Derived.Deep.Quiet
namespace Go.Proofs.Ythmnbciefpkpmaa
open Go.RowKit

/-- trees by their pointers, at places -/
theorem Trs.at {ty : TypeId} {w : World} : ∀ (ts : List T) (ps : List (Option Addr)), Trs ty w ts ps → ∀ i, i < ts.length → Tr ty w (ts.getD i .nil) (ps.getD i none)
  | [], _, _, i, hi => by simp at hi
  | t :: ts, _, ⟨p, r, rfl, h1, h2⟩, 0, _ => by simpa using h1
  | t :: ts, _, ⟨p, r, rfl, h1, h2⟩, i + 1, hi => by
    have := Trs.at ts r h2 i (by simpa using hi)
    simpa using this

theorem Trs.set {ty : TypeId} {w : World} : ∀ (ts : List T) (ps : List (Option Addr)), Trs ty w ts ps → ∀ (i : Nat) (t : T) (p : Option Addr), Tr ty w t p → Trs ty w (ts.set i t) (ps.set i p)
  | [], _, h, i, t, p, _ => by simp only [Trs] at h; subst h; simp [Trs]
  | t0 :: ts, _, ⟨p0, r, rfl, h1, h2⟩, 0, t, p, h => ⟨p, r, rfl, h, h2⟩
  | t0 :: ts, _, ⟨p0, r, rfl, h1, h2⟩, i + 1, t, p, h => ⟨p0, r.set i p, rfl, h1, Trs.set ts r h2 i t p h⟩

/-- an array of trees in a block of its own -/
def ArrAt (ty rt : TypeId) (w : World) (b : Nat) (ts : List T) : Prop :=
  ∃ ps : List (Option Addr), w.heap[b]? = some (.cells (ps.map Value.pointer).toArray rt (0, 0)) ∧ Trs ty w ts ps

theorem ArrAt.cell {ty rt : TypeId} {w : World} {b : Nat} {ts : List T} (h : ArrAt ty rt w b ts) (i : Nat) (hi : i < ts.length) :
    ∃ p, w.cell? ⟨b, i, none⟩ = some (.pointer p) ∧ Tr ty w (ts.getD i .nil) p := by
  obtain ⟨ps, hb, ht⟩ := h
  have hl := Trs.len _ _ ht
  refine ⟨ps.getD i none, ?_, ht.at _ _ i hi⟩
  simp [World.cell?, hb, hl, hi]

theorem ArrAt.frozen {ty rt : TypeId} {w : World} {b : Nat} {ts : List T} (h : ArrAt ty rt w b ts) (i : Nat) : w.frozen? ⟨b, i, none⟩ = false := by
  obtain ⟨ps, hb, _⟩ := h
  simp [World.frozen?, hb]

theorem ArrAt.lt {ty rt : TypeId} {w : World} {b : Nat} {ts : List T} (h : ArrAt ty rt w b ts) : b < w.heap.size := by
  obtain ⟨ps, hb, _⟩ := h
  exact lt_of_block hb

theorem ArrAt.keep {ty rt : TypeId} {w w' : World} {b : Nat} {ts : List T} (h : ArrAt ty rt w b ts) (hk : KeepTy ty w w') (hr : KeepTy rt w w') : ArrAt ty rt w' b ts :=
  let ⟨ps, hb, ht⟩ := h
  ⟨ps, hr _ _ hb, Trs.keep hk _ _ ht⟩

theorem KeepTy.setCell {ty : TypeId} {w : World} {a : Addr} {v : Value} {e : TypeId} {cs : Array Value} (hne : ty ≠ e) (hb : w.heap[a.block]? = some (.cells cs e (0, 0))) : KeepTy ty w (w.setCell a v) := fun b c h => by
  rw [Below.heap_setCell _ _ _ _ ?_]
  · exact h
  · intro e2
    subst e2
    rw [hb] at h
    simp only [Option.some.injEq, Obj.cells.injEq] at h
    exact hne h.2.1.symm

theorem ArrAt.store {ty rt : TypeId} {w : World} {b : Nat} {ts : List T} (h : ArrAt ty rt w b ts) (hne : ty ≠ rt) (i : Nat) (t : T) (p : Option Addr) (ht : Tr ty w t p) :
    ArrAt ty rt (w.setCell ⟨b, i, none⟩ (.pointer p)) b (ts.set i t) := by
  obtain ⟨ps, hb, hts⟩ := h
  have hk : KeepTy ty w (w.setCell ⟨b, i, none⟩ (.pointer p)) := KeepTy.setCell (a := ⟨b, i, none⟩) hne hb
  refine ⟨ps.set i p, ?_, Trs.keep hk _ _ (Trs.set _ _ hts i t p ht)⟩
  simp only [World.setCell, Array.getElem?_modify, if_true, hb, Option.map_some]
  simp [List.map_set]

theorem ArrAt.keepTy {ty rt t2 : TypeId} {w : World} {b : Nat} {ts : List T} (h : ArrAt ty rt w b ts) (hne : t2 ≠ rt) (i : Nat) (v : Value) : KeepTy t2 w (w.setCell ⟨b, i, none⟩ v) := by
  obtain ⟨ps, hb, hts⟩ := h
  exact KeepTy.setCell (a := ⟨b, i, none⟩) hne hb

/-- a row of trees that the call has made -/
def RowAt (ty e : TypeId) (w : World) (B g n cap : Nat) (ts : List T) : Prop :=
  ∃ ps : List (Option Addr), w.ownsRow B e 1 (.slice (some ⟨g, 0, none⟩) n cap) n (ps.map Value.pointer) ∧ Trs ty w ts ps ∧ ts.length = n

theorem RowAt.cell {ty e : TypeId} {w : World} {B g n cap : Nat} {ts : List T} (h : RowAt ty e w B g n cap ts) (i : Nat) (hi : i < n) :
    ∃ p, w.cell? ⟨g, i, none⟩ = some (.pointer p) ∧ Tr ty w (ts.getD i .nil) p := by
  obtain ⟨ps, hown, ht, hn⟩ := h
  have hl := Trs.len _ _ ht
  refine ⟨ps.getD i none, ?_, ht.at _ _ i (by omega)⟩
  rw [hown.cellAt i (by omega)]
  simp [hl, hn, hi]

theorem RowAt.frozen {ty e : TypeId} {w : World} {B g n cap : Nat} {ts : List T} (h : RowAt ty e w B g n cap ts) (i : Nat) : w.frozen? ⟨g, i, none⟩ = false := by
  obtain ⟨ps, hown, _⟩ := h
  exact hown.frozenAt i

theorem RowAt.block {ty e : TypeId} {w : World} {B g n cap : Nat} {ts : List T} (h : RowAt ty e w B g n cap ts) : ∃ cur, w.heap[g]? = some (.cells cur e (0, 0)) ∧ B ≤ g := by
  obtain ⟨ps, hown, _⟩ := h
  rcases hown.2 with ⟨h0, _⟩ | ⟨g', cap', cur, hv, hB, hh, _⟩
  · simp at h0
  · simp only [Value.slice.injEq, Option.some.injEq, Addr.mk.injEq, and_true] at hv
    obtain ⟨rfl, _⟩ := hv
    exact ⟨cur, hh, hB⟩

theorem RowAt.keep {ty e : TypeId} {w w' : World} {B g n cap : Nat} {ts : List T} (h : RowAt ty e w B g n cap ts) (hk : KeepTy ty w w') (hr : KeepTy e w w') : RowAt ty e w' B g n cap ts := by
  obtain ⟨ps, hown, ht, hn⟩ := h
  refine ⟨ps, ⟨hown.1, ?_⟩, Trs.keep hk _ _ ht, hn⟩
  rcases hown.2 with ⟨h0, _⟩ | ⟨g', cap', cur, hv, hB, hh, r⟩
  · simp at h0
  · exact .inr ⟨g', cap', cur, hv, hB, hr _ _ hh, r⟩

theorem RowAt.store {ty e : TypeId} {w : World} {B g n cap : Nat} {ts : List T} (h : RowAt ty e w B g n cap ts) (hne : ty ≠ e) (i : Nat) (t : T) (p : Option Addr) (ht : Tr ty w t p) :
    RowAt ty e (w.setCell ⟨g, i, none⟩ (.pointer p)) B g n cap (ts.set i t) := by
  obtain ⟨cur, hb, _⟩ := h.block
  obtain ⟨ps, hown, hts, hn⟩ := h
  have hk : KeepTy ty w (w.setCell ⟨g, i, none⟩ (.pointer p)) := KeepTy.setCell (a := ⟨g, i, none⟩) hne hb
  refine ⟨ps.set i p, ?_, Trs.keep hk _ _ (Trs.set _ _ hts i t p ht), by simp [hn]⟩
  have := (hown.stored i (.pointer p)).1
  simpa [List.map_set] using this

theorem keepB {B : Nat} {w w' : World} (h : Below B w w') (ty : TypeId) (hB : w.heap.size ≤ B) : KeepTy ty w w' := fun b cs hb => by
  rw [h.block b (Nat.lt_of_lt_of_le (lt_of_block hb) hB)]; exact hb

theorem KeepTy.drewN (ty : TypeId) (w : World) (n : Nat) : KeepTy ty w (w.drewN n) := fun _ _ h => h

end Go.Proofs.Ythmnbciefpkpmaa
