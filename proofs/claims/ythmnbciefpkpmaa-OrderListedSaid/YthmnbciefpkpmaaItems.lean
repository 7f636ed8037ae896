/- The walk of tree.Items: the elements of a tree in a slice of strings. -/
import Derived.Test.YthmnbciefpkpmaaParts
import Derived.Outline
namespace Go.Proofs.Ythmnbciefpkpmaa
open Go.RowKit

theorem strInfo : (Try.prog.info? 9).map (fun i => (i.zero, i.size, i.bytes)) = some (some (.string ⟨#[]⟩), 1, 16) := by kernel_rfl

/-- a row of strings that the call has made -/
def StrsAt (w : World) (B : Nat) (ao : Option Addr) (cap : Nat) (ts : List T) : Prop := w.ownsRow B 9 1 (.slice ao ts.length cap) ts.length (ts.map fun t => .string (strB (enc t)))

/-- the variable that holds such a row -/
def OutAt (w : World) (B g : Nat) (ts : List T) : Prop := B ≤ g ∧ ∃ ao cap, w.heap[g]? = some (.cells #[.slice ao ts.length cap] 148 (0, 0)) ∧ StrsAt w B ao cap ts

theorem rowKeep {w w' : World} {B e s n : Nat} {v : Value} {xs : List Value} (h : w.ownsRow B e s v n xs) (hk : KeepTy e w w') : w'.ownsRow B e s v n xs := by
  refine ⟨h.1, ?_⟩
  rcases h.2 with h0 | ⟨g, cap', cur, hv, hB, hh, r⟩
  · exact .inl h0
  · exact .inr ⟨g, cap', cur, hv, hB, hk _ _ hh, r⟩

def NextPost (B g : Nat) (w : World) (t : T) (ts : List T) (e : Ending) (w' : World) : Prop := e = .returned (.string (strB (enc t.tl))) ∧ OutAt w' B g (ts ++ [t.hd]) ∧ Below B w w' ∧ w.heap.size ≤ w'.heap.size

set_option maxRecDepth 100000 in
theorem next_item_c (B g : Nat) (t : T) (ts : List T) (w : World) (ho : OutAt w B g ts) (ht : t.size ≤ 2000000) (hl : ts.length ≤ 2000000) (hB : B ≤ w.heap.size) :
    Calls Try.prog 157 #[.string (strB (enc t)), .pointer (some ⟨g, 0, none⟩)] w (NextPost B g w t ts) := by
  have hp := fun w => parts_c t w ht
  obtain ⟨hBg, ao, cap, hbk, hst⟩ := ho
  simp only [partsV] at hp
  unfold NextPost
  have hcons : ts.map (fun t => Value.string (strB (enc t))) ++ [Value.string (strB (enc t.hd))] = (ts ++ [t.hd]).map (fun t => Value.string (strB (enc t))) := by simp
  have Hc := Lib.hid hcons
  clear hcons
  unfold StrsAt at hst
  generalize hxs : ts.map (fun t => Value.string (strB (enc t))) = xs at *
  generalize hn : ts.length = n at *
  have Hn := Lib.hid hn
  clear hn hxs
  generalize strB (enc t) = u at *
  generalize strB (enc t.hd) = u1 at *
  generalize strB (enc t.tl) = u2 at *
  have Hp := Lib.hid hp
  clear hp ht
  obtain ⟨i0, hi, hz0, hz1, hz2⟩ := info_parts strInfo
  have hlt : g < w.heap.size := lt_of_block hbk
  go_enter Try.func157, Try.ntmps157
  go_wp2_with fail
  refine (Hp.out _).mono ?_
  rintro e w1 ⟨rfl, hb1⟩
  have hbk1 : w1.heap[g]? = some (.cells #[.slice ao n cap] 148 (0, 0)) := by rw [hb1.block g hlt]; exact hbk
  have hst1 := rowKeep hst (KeepTy.below hb1)
  have c0 : w1.cell? ⟨g, 0, none⟩ = some (.slice ao n cap) := by rw [cell_of_block hbk1]; rfl
  have hlt1 := Nat.lt_of_lt_of_le hlt hb1.size
  have hB1 := Nat.le_trans hB hb1.size
  clear hst hbk
  go_wp2_with (at_builtin; refine wpList_append_lies _ rfl _ _ 148 rfl B 9 i0 _ 1 16 Try.underlying148 hi hz0 hz1 hz2 rfl (by decide) (.slice ao n cap) n xs rfl (hst1.alloc _) ⟨w1.heap.size, 0, none⟩ 1 1 [.string u1] rfl rfl (news1 (heap_alloc_new _ _)) (by simp; rfl) (by decide) (by unfold maxLen; omega) (by omega) (by simp; omega) (w1.heap.size + 1) (by simp) ?_)
  intro g2 cap2 w2 hown2 hgrow hat hlt2
  have hne : (Value.slice ao n cap).ownBlock ≠ some g := by
    rcases hst1.2 with ⟨h0, _⟩ | ⟨g', cap', cur, hv, _, hh, _⟩
    · simp only [Value.slice.injEq] at h0; obtain ⟨rfl, _⟩ := h0; simp [Value.ownBlock]
    · rw [hv]
      simp only [Value.ownBlock, ne_eq, Option.some.injEq]
      intro e
      subst e
      rw [hbk1] at hh
      simp at hh
  have hbk2 : w2.heap[g]? = some (.cells #[.slice ao n cap] 148 (0, 0)) := by
    rw [hgrow.block g (by simp; omega) (fun e => hne e.symm), Go.heap_alloc_old _ _ hlt1]
    exact hbk1
  have d0 : w2.cell? ⟨g, 0, none⟩ = some (.slice ao n cap) := by rw [cell_of_block hbk2]; rfl
  have f0 : w2.frozen? ⟨g, 0, none⟩ = false := by simp [World.frozen?, hbk2]
  have hne2 : g2 ≠ g := by
    rcases hown2.2 with ⟨h0, _⟩ | ⟨g', cap', cur, hv, _, hh, _⟩
    · simp at h0
    · simp only [Value.slice.injEq, Option.some.injEq, Addr.mk.injEq, and_true] at hv
      obtain ⟨rfl, _⟩ := hv
      intro e
      subst e
      rw [hbk2] at hh
      simp at hh
  have hbel := (((hb1.mono hB).alloc hB1 (.cells #[.string u1] 9 (0, 0))).grown hgrow (by simp; omega) (fun k hk => (hst1.lt k hk).1)).setCell (p := ⟨g, 0, none⟩) hBg (.slice (some ⟨g2, 0, none⟩) (n + 1) cap2)
  have hsz2 : w1.heap.size ≤ w2.heap.size := by have := hgrow.size; simp at this; omega
  have hbk3 : (w2.setCell ⟨g, 0, none⟩ (.slice (some ⟨g2, 0, none⟩) (n + 1) cap2)).heap[g]? = some (.cells #[.slice (some ⟨g2, 0, none⟩) (n + 1) cap2] 148 (0, 0)) := by
    simp [World.setCell, Array.getElem?_modify, hbk2]
  have hst3 := rowKeep hown2 (KeepTy.setCell (a := ⟨g, 0, none⟩) (v := .slice (some ⟨g2, 0, none⟩) (n + 1) cap2) (show 9 ≠ 148 by decide) hbk2)
  have HH := Lib.hid (And.intro hbel (And.intro hbk3 (And.intro hst3 hsz2)))
  have Hb1 := Lib.hid hb1.size
  clear hbel hbk3 hst3 hsz2 hb1 hat hlt2 hne hne2 hown2 hgrow hst1 hbk1 hbk2 c0 hi hz0 hz1 hz2 hlt1 hlt hB1
  go_wp2_with fail
  go_ret
  obtain ⟨hbel, hbk3, hst3, hsz2⟩ := HH.out
  refine ⟨rfl, ⟨hBg, some ⟨g2, 0, none⟩, cap2, ?_, ?_⟩, hbel, ?_⟩
  · rw [List.length_append, Hn.out]; exact hbk3
  · unfold StrsAt
    rw [← Hc.out, List.length_append, Hn.out]; exact hst3
  · have := Hb1.out
    have h2 : (w2.setCell ⟨g, 0, none⟩ (.slice (some ⟨g2, 0, none⟩) (n + 1) cap2)).heap.size = w2.heap.size := by simp [World.setCell]
    omega

def ItemsPost (w : World) (t : T) (e : Ending) (w' : World) : Prop := (∃ ao cap, e = .returned (.tuple #[.slice ao t.items.length cap, .int .i64 0]) ∧ StrsAt w' w.heap.size ao cap t.items) ∧ Below w.heap.size w w'

theorem items_tail {ts : List T} {u t : T} (h : ts ++ u.items = t.items) (hu : u ≠ .nil) : (ts ++ [u.hd]) ++ u.tl.items = t.items := by
  cases u with
  | nil => exact absurd rfl hu
  | node a b => rw [← h]; simp [T.items, T.hd, T.tl]

theorem spine_size : ∀ t : T, t.spine < t.size
  | .nil => by simp [T.spine, T.size]
  | .node a b => by have := spine_size b; have := a.size_pos; simp only [T.spine, T.size]; omega

set_option maxRecDepth 100000 in
theorem items_no (s : ByteArray) (w : World) (hs : s.size ≤ 140737488351232) (h : validB s = false) :
    Calls Try.prog 119 #[.string s] w fun e w' => e = .returned (.tuple #[.slice none 0 0, .int .i64 1]) ∧ Below w.heap.size w w' := by
  have hv := valid_c s w hs
  rw [h] at hv
  have Hv := Lib.hid hv
  clear hv h
  go_enter Try.func119, Try.ntmps119
  go_wp2_with (go_at_call 94; refine Hv.out.mono ?_; rintro e w1 ⟨rfl, hb1⟩)
  go_ret2
  exact ⟨rfl, hb1⟩

set_option maxRecDepth 100000 in
theorem items_c (t : T) (w : World) (ht : t.size ≤ 2000000) : Calls Try.prog 119 #[.string (strB (enc t))] w (ItemsPost w t) := by
  have hv := valid_c (strB (enc t)) w (by rw [strB_size, enc_len]; omega)
  rw [valid_enc t ht] at hv
  unfold ItemsPost
  generalize hs0 : strB (enc t) = s0 at *
  have Hs0 := Lib.hid hs0
  have Hv := Lib.hid hv
  clear hv hs0
  have hmf : ∀ (fn : Fn) (first cap : Array Value) (w : World), (Instr.makeFunc fn first cap).run Try.prog w = .ok (.func fn first cap) w := fun _ _ _ _ => rfl
  go_enter Try.func119, Try.ntmps119
  go_wp2_with (go_at_call 94; refine Hv.out.mono ?_; rintro e w1 ⟨rfl, hb1⟩)
  have hB1 := hb1.size
  have hout : OutAt (w1.alloc (.cells #[.slice none 0 0] 148 (0, 0))) w.heap.size w1.heap.size [] := ⟨hB1, none, 0, heap_alloc_new _ _, World.ownsRow_nil _ _ _ _⟩
  have hbel := hb1.alloc hB1 (.cells #[.slice none 0 0] 148 (0, 0))
  have hsz : w1.heap.size < (w1.alloc (.cells #[.slice none 0 0] 148 (0, 0))).heap.size := by simp
  generalize w1.alloc (.cells #[.slice none 0 0] 148 (0, 0)) = w2 at *
  generalize w1.heap.size = g at *
  clear hb1
  go_loopw [0] (fun s wr => ∃ (u : T) (ts : List T), s = .string (strB (enc u)) ∧ ts ++ u.items = t.items ∧ u.size ≤ 2000000 ∧ OutAt wr w.heap.size g ts ∧ Below w.heap.size w wr ∧ w.heap.size ≤ wr.heap.size) (fun s _ => match s with | .string b => b.size | _ => 0)
  case atStart => exact ⟨t, [], by rw [Hs0.out], rfl, ht, hout, hbel, by omega⟩
  case round =>
    obtain ⟨u, ts, rfl, hts, hu, hout, hbel, hsz⟩ := hrel
    have hlen : ts.length ≤ 2000000 := by
      have h1 := congrArg List.length hts
      have h2 := spine_size t
      rw [List.length_append, items_len t] at h1
      omega
    by_cases h0 : u = .nil
    · subst h0
      have h1 : ((strB (enc .nil)).toList == [48]) = true := by rw [toList_strB]; rfl
      obtain ⟨_, ao, cap, hbk, hst⟩ := hout
      have hts2 : ts = t.items := by simpa [T.items] using hts
      have Hts := Lib.hid hts2
      have c0 : wr.cell? ⟨g, 0, none⟩ = some (.slice ao ts.length cap) := by rw [cell_of_block hbk]; rfl
      clear hts hts2
      go_wp2_with fail
      go_ret2
      exact ⟨⟨ao, cap, by rw [← Hts.out]; rfl, by rw [← Hts.out]; exact hst⟩, hbel⟩
    · have h1 : ((strB (enc u)).toList == [48]) = false := by
        rw [toList_strB]
        cases u with
        | nil => exact absurd rfl h0
        | node a b => obtain ⟨c, r, h⟩ := enc_hd a; simp [enc, h]
      have hc := next_item_c w.heap.size g u ts wr hout hu hlen hsz
      have hz1 : (strB (enc u)).size = u.size := by rw [strB_size, enc_len]
      have hz2 : (strB (enc u.tl)).size < u.size := by
        rw [strB_size, enc_len]
        cases u with
        | nil => exact absurd rfl h0
        | node a b => simp only [T.tl, T.size]; omega
      have hz3 := tl_size u
      have hit := items_tail hts h0
      generalize hsu : strB (enc u) = su at *
      have Hst := Lib.hid (And.intro hit (And.intro hz1 hz2))
      have Hc := Lib.hid hc
      clear hc hit hz1 hz2 hts h0 hsu hout
      go_wp2_with fail
      refine Hc.out.mono ?_
      rintro e w5 ⟨rfl, ho5, hb5, hsz5⟩
      go_wp2_with fail
      go_roundw
      case rel => exact ⟨u.tl, ts ++ [u.hd], rfl, Hst.out.1, by omega, ho5, hbel.trans hb5, by omega⟩
      case measure => have := Hst.out.2; simp; omega

end Go.Proofs.Ythmnbciefpkpmaa
