/- More on slices of trees in memory. -/
import Derived.Test.YthmnbciefpkpmaaBase
namespace Go.Proofs.Ythmnbciefpkpmaa
open Go.RowKit

theorem StkAt.one {ty e : TypeId} {w : World} {B cap : Nat} {ao : Option Addr} {a : T} {r : List T} (h : StkAt ty e w B ao cap (a :: r)) :
    ∃ g pa, ao = some ⟨g, 0, none⟩ ∧ B ≤ g ∧ g < w.heap.size ∧ w.cell? ⟨g, r.length, none⟩ = some (.pointer pa) ∧ Tr ty w a pa ∧ StkAt ty e w B (some ⟨g, 0, none⟩) cap r ∧ r.length + 1 ≤ cap := by
  obtain ⟨ps, hown, pa, pr, rfl, ha, hr⟩ := h
  have hl := Trs.len _ _ hr
  simp only [List.length_cons] at hown
  rcases hown.2 with ⟨_, h0⟩ | ⟨g, cap', cur, hv, hB, hg, hcap, _⟩
  · omega
  · simp only [Value.slice.injEq] at hv
    obtain ⟨rfl, _, rfl⟩ := hv
    have hca := hown.cellAt r.length (by omega)
    simp only [List.reverse_cons, List.map_append, List.map_cons, List.map_nil] at hca hown
    rw [List.getElem?_append_right (by simp [hl])] at hca
    simp [hl] at hca
    refine ⟨g, pa, rfl, hB, lt_of_block hg, hca, ha, ⟨pr, ?_, hr⟩, hcap⟩
    exact ownsRow_pop (last := [Value.pointer pa]) (by simp [hl]) hown

/-- two more trees on top, behind an append: 'a' is the first one -/
theorem StkAt.push2 {ty e : TypeId} {w w1 : World} {B cap n : Nat} {v : Value} {ts : List T} {ps : List (Option Addr)} {a b : T} {pa pb : Option Addr} {g : Nat} (hne : ty ≠ e)
    (hown : w.ownsRow B e 1 v n (ps.reverse.map Value.pointer)) (hn : n = ts.length) (hts : Trs ty w ts ps) (ha : Tr ty w a pa) (hb : Tr ty w b pb)
    (h1 : w1.ownsRow B e 1 (.slice (some ⟨g, 0, none⟩) (n + 2) cap) (n + 2) (ps.reverse.map Value.pointer ++ [.pointer pb, .pointer pa])) (hg : w.grownBy w1 v.ownBlock) :
    StkAt ty e w1 B (some ⟨g, 0, none⟩) cap (a :: b :: ts) := by
  subst hn
  have hk := KeepTy.grown hne hown hg
  exact ⟨pa :: pb :: ps, by simpa using h1, pa, _, rfl, Tr.keep hk _ _ ha, pb, ps, rfl, Tr.keep hk _ _ hb, Trs.keep hk _ _ hts⟩

/-- rows of different types lie apart -/
theorem rows_apart {w : World} {B1 B2 e1 e2 s1 s2 n1 n2 : Nat} {v1 v2 : Value} {xs1 xs2 : List Value} (h1 : w.ownsRow B1 e1 s1 v1 n1 xs1) (h2 : w.ownsRow B2 e2 s2 v2 n2 xs2) (hne : e1 ≠ e2) :
    v1.ownBlock = none ∨ v1.ownBlock ≠ v2.ownBlock := by
  rcases h1.2 with ⟨rfl, _⟩ | ⟨g1, cap1, cur1, rfl, _, hh1, _⟩
  · exact .inl rfl
  · rcases h2.2 with ⟨rfl, _⟩ | ⟨g2, cap2, cur2, rfl, _, hh2, _⟩
    · exact .inr (by simp [Value.ownBlock])
    · refine .inr fun h => ?_
      simp only [Value.ownBlock, Option.some.injEq] at h
      subst h
      rw [hh1] at hh2
      simp only [Option.some.injEq, Obj.cells.injEq] at hh2
      exact hne hh2.2.1

theorem StkAt.grown {ty e e2 : TypeId} {w w1 : World} {B B2 cap s2 n2 : Nat} {ao : Option Addr} {ts : List T} {v2 : Value} {xs2 : List Value} (h : StkAt ty e w B ao cap ts)
    (h2 : w.ownsRow B2 e2 s2 v2 n2 xs2) (hne : e ≠ e2) (hne2 : ty ≠ e2) (hg : w.grownBy w1 v2.ownBlock) : StkAt ty e w1 B ao cap ts :=
  h.keep (KeepTy.grown hne2 h2 hg) fun _ hx => hx.kept hg (rows_apart hx h2 hne)

theorem StkAt.alloc {ty e : TypeId} {w : World} {B cap : Nat} {ao : Option Addr} {ts : List T} (h : StkAt ty e w B ao cap ts) (o : Obj) : StkAt ty e (w.alloc o) B ao cap ts :=
  h.keep (KeepTy.alloc _ _ _) fun _ hx => hx.alloc _

theorem StkAt.drew {ty e : TypeId} {w : World} {B cap : Nat} {ao : Option Addr} {ts : List T} (h : StkAt ty e w B ao cap ts) : StkAt ty e w.drew B ao cap ts :=
  h.keep (KeepTy.drew _ _) fun _ hx => hx.drew

theorem BytesAt.grown {e e2 : TypeId} {w w1 : World} {B B2 cap s2 n2 : Nat} {ao : Option Addr} {l : List UInt8} {v2 : Value} {xs2 : List Value} (h : BytesAt e w B ao cap l)
    (h2 : w.ownsRow B2 e2 s2 v2 n2 xs2) (hne : e ≠ e2) (hg : w.grownBy w1 v2.ownBlock) : BytesAt e w1 B ao cap l :=
  World.ownsRow.kept h hg (rows_apart h h2 hne)

theorem BytesAt.alloc {e : TypeId} {w : World} {B cap : Nat} {ao : Option Addr} {l : List UInt8} (h : BytesAt e w B ao cap l) (o : Obj) : BytesAt e (w.alloc o) B ao cap l := World.ownsRow.alloc h o
theorem BytesAt.drew {e : TypeId} {w : World} {B cap : Nat} {ao : Option Addr} {l : List UInt8} (h : BytesAt e w B ao cap l) : BytesAt e w.drew B ao cap l := World.ownsRow.drew h

theorem encS_nil_tail {ts : List T} {E l : List UInt8} (h : E = l ++ encS (.nil :: ts)) : E = (l ++ [48]) ++ encS ts := by simp [h, encS, enc]
theorem encS_node_tail {a b : T} {ts : List T} {E l : List UInt8} (h : E = l ++ encS (.node a b :: ts)) : E = (l ++ [49]) ++ encS (a :: b :: ts) := by simp [h, encS, enc]

theorem news2 {w : World} {b : Nat} {u v : Value} {t : TypeId} (h : w.heap[b]? = some (.cells #[u, v] t (0, 0))) : ∀ j x, [u, v][j]? = some x → w.cell? ((⟨b, 0, none⟩ : Addr).add j) = some x :=
  World.news_of_block (cs := #[u, v]) h

end Go.Proofs.Ythmnbciefpkpmaa
