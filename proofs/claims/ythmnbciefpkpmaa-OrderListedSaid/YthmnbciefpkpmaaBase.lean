/- The trees of the document, in memory: shared by all claims of this seat. -/
import Derived.WalkKit
import Derived.WalkSpells
import Derived.WalkLawsBesides
import Derived.Lib.Hide
import Derived.Deep.AppendLies
import Derived.Lib.UnsafeStr
import Derived.Lib.BufferRead
namespace Go.Proofs.Ythmnbciefpkpmaa
open Go.RowKit

inductive T where
  | nil
  | node (h t : T)
  deriving Inhabited

def T.size : T → Nat
  | .nil => 1
  | .node h t => 1 + h.size + t.size

theorem T.size_pos : ∀ t : T, 0 < t.size
  | .nil => by simp [T.size]
  | .node _ _ => by simp [T.size]; omega

/-- the pointer 'p' is a tree of cells of type 'ty' -/
def Tr (ty : TypeId) (w : World) : T → Option Addr → Prop
  | .nil, p => p = none
  | .node h t, p => ∃ b ph pt, p = some ⟨b, 0, none⟩ ∧
      w.heap[b]? = some (.cells #[.pointer ph, .pointer pt, .int .i64 (T.node h t).size] ty (0, 0)) ∧ Tr ty w h ph ∧ Tr ty w t pt

theorem cell_of_block {w : World} {b : Nat} {cs : Array Value} {ty : TypeId} (h : w.heap[b]? = some (.cells cs ty (0, 0))) (i : Nat) :
    w.cell? ⟨b, i, none⟩ = cs[i]? := by simp [World.cell?, h]

/-- what stands from a place on: trees, the first one first -/
def stk : List UInt8 → Option (List T)
  | [] => some []
  | c :: l => match stk l with
    | none => none
    | some ts => if c = 48 then some (.nil :: ts) else if c = 49 then
        match ts with
        | a :: b :: r => some (.node a b :: r)
        | _ => none
      else none

def treeOf (l : List UInt8) : Option T := match stk l with | some [t] => some t | _ => none

/-- the blocks of a type are as they were -/
def KeepTy (ty : TypeId) (w w' : World) : Prop := ∀ (b : Nat) (cs : Array Value), w.heap[b]? = some (Obj.cells cs ty (0, 0)) → w'.heap[b]? = some (Obj.cells cs ty (0, 0))

theorem Tr.keep {ty : TypeId} {w w' : World} (h : KeepTy ty w w') :
    ∀ (t : T) (p : Option Addr), Tr ty w t p → Tr ty w' t p
  | .nil, _, hp => hp
  | .node a b, _, ⟨k, pa, pb, hp, hb, ha, hb'⟩ => ⟨k, pa, pb, hp, h _ _ hb, Tr.keep h a pa ha, Tr.keep h b pb hb'⟩

/-- trees, each by its pointer -/
def Trs (ty : TypeId) (w : World) : List T → List (Option Addr) → Prop
  | [], ps => ps = []
  | t :: ts, ps => ∃ p r, ps = p :: r ∧ Tr ty w t p ∧ Trs ty w ts r

theorem Trs.keep {ty : TypeId} {w w' : World} (h : KeepTy ty w w') :
    ∀ (ts : List T) (ps : List (Option Addr)), Trs ty w ts ps → Trs ty w' ts ps
  | [], _, hp => hp
  | _ :: ts, _, ⟨p, r, hp, h1, h2⟩ => ⟨p, r, hp, Tr.keep h _ _ h1, Trs.keep h ts r h2⟩

theorem Trs.len {ty : TypeId} {w : World} : ∀ (ts : List T) (ps : List (Option Addr)), Trs ty w ts ps → ps.length = ts.length
  | [], _, hp => by simp only [Trs] at hp; subst hp; rfl
  | _ :: ts, _, ⟨p, r, hp, _, h2⟩ => by subst hp; simp [Trs.len ts r h2]


/-- a slice that holds trees: the first one of 'ts' is its last element -/
def StkAt (ty e : TypeId) (w : World) (B : Nat) (ao : Option Addr) (cap : Nat) (ts : List T) : Prop :=
  ∃ ps : List (Option Addr), w.ownsRow B e 1 (.slice ao ts.length cap) ts.length (ps.reverse.map Value.pointer) ∧ Trs ty w ts ps

theorem stkAt_nil (ty e : TypeId) (w : World) (B : Nat) : StkAt ty e w B none 0 [] := ⟨[], World.ownsRow_nil _ _ _ _, rfl⟩

theorem KeepTy.refl (ty : TypeId) (w : World) : KeepTy ty w w := fun _ _ h => h
theorem KeepTy.trans {ty : TypeId} {a b c : World} (h : KeepTy ty a b) (k : KeepTy ty b c) : KeepTy ty a c := fun i cs hi => k i cs (h i cs hi)
theorem KeepTy.below {ty : TypeId} {w w' : World} (h : Below w.heap.size w w') : KeepTy ty w w' := fun b cs hb => by
  rw [h.block b (lt_of_block hb)]; exact hb
theorem KeepTy.alloc (ty : TypeId) (w : World) (o : Obj) : KeepTy ty w (w.alloc o) := KeepTy.below ((Below.refl _ _).alloc (Nat.le_refl _) o)
theorem KeepTy.drew (ty : TypeId) (w : World) : KeepTy ty w w.drew := fun _ _ h => h
theorem KeepTy.grown {ty e : TypeId} (hne : ty ≠ e) {w w' : World} {B size n : Nat} {v : Value} {xs : List Value} (hown : w.ownsRow B e size v n xs) (hg : w.grownBy w' v.ownBlock) : KeepTy ty w w' := fun b cs hb => by
  rw [hg.block b (lt_of_block hb) ?_]
  · exact hb
  · intro h
    rcases hown.2 with ⟨rfl, _⟩ | ⟨g, cap, cur, rfl, _, hh, _⟩
    · simp [Value.ownBlock] at h
    · simp only [Value.ownBlock, Option.some.injEq] at h
      subst h
      rw [hb] at hh
      simp only [Option.some.injEq, Obj.cells.injEq] at hh
      exact hne hh.2.1

def GrowPost (ty : TypeId) (r : Option T) (e : Ending) (w' : World) : Prop :=
  match r with
  | none => e = .returned (.tuple #[.pointer none, .bool false])
  | some t => ∃ p, e = .returned (.tuple #[.pointer p, .bool true]) ∧ Tr ty w' t p

theorem stk_drop (l : List UInt8) (j : Nat) (h : j < l.length) : stk (l.drop j) = stk (l[j] :: l.drop (j + 1)) := by rw [List.drop_eq_getElem_cons h]

theorem stk_none (l : List UInt8) : ∀ (j : Nat), stk (l.drop j) = none → stk l = none := by
  induction l with
  | nil => intro j h; cases j <;> exact h
  | cons c l ih =>
    intro j h
    cases j with
    | zero => exact h
    | succ j => simp only [stk, ih j h]

theorem StkAt.keep {ty e : TypeId} {w w' : World} {B cap : Nat} {ao : Option Addr} {ts : List T} (h : StkAt ty e w B ao cap ts) (hk : KeepTy ty w w') (hr : ∀ xs, w.ownsRow B e 1 (.slice ao ts.length cap) ts.length xs → w'.ownsRow B e 1 (.slice ao ts.length cap) ts.length xs) : StkAt ty e w' B ao cap ts :=
  let ⟨ps, h1, h2⟩ := h
  ⟨ps, hr _ h1, Trs.keep hk _ _ h2⟩

/-- one more tree on top, behind an append -/
theorem StkAt.push {ty e : TypeId} {w w1 : World} {B cap n : Nat} {v : Value} {ts : List T} {ps : List (Option Addr)} {t : T} {p : Option Addr} {g : Nat} (hne : ty ≠ e)
    (hown : w.ownsRow B e 1 v n (ps.reverse.map Value.pointer)) (hn : n = ts.length) (hts : Trs ty w ts ps) (ht : Tr ty w t p)
    (h1 : w1.ownsRow B e 1 (.slice (some ⟨g, 0, none⟩) (n + 1) cap) (n + 1) (ps.reverse.map Value.pointer ++ [.pointer p])) (hg : w.grownBy w1 v.ownBlock) :
    StkAt ty e w1 B (some ⟨g, 0, none⟩) cap (t :: ts) := by
  subst hn
  have hk := KeepTy.grown hne hown hg
  exact ⟨p :: ps, by simpa using h1, p, ps, rfl, Tr.keep hk _ _ ht, Trs.keep hk _ _ hts⟩

theorem heap_at (w : World) (o : Obj) (n : Nat) (h : n = w.heap.size) : (w.alloc o).heap[n]? = some o := by subst h; exact heap_alloc_new w o

/-- the one cell of a block that is known whole -/
theorem news1 {w : World} {b : Nat} {v : Value} {t : TypeId} (h : w.heap[b]? = some (.cells #[v] t (0, 0))) : ∀ j u, [v][j]? = some u → w.cell? ((⟨b, 0, none⟩ : Addr).add j) = some u :=
  World.news_of_block (cs := #[v]) h

theorem stk_len : ∀ (l : List UInt8) (ts : List T), stk l = some ts → ts.length ≤ l.length
  | [], ts, h => by simp only [stk, Option.some.injEq] at h; subst h; simp
  | c :: l, ts, h => by
    simp only [stk] at h
    cases h1 : stk l with
    | none => rw [h1] at h; simp at h
    | some us =>
      have := stk_len l us h1
      rw [h1] at h
      simp only at h
      split at h
      · simp only [Option.some.injEq] at h; subst h; simp; omega
      · split at h
        · split at h
          · simp only [Option.some.injEq] at h; subst h; simp at this ⊢; omega
          · simp at h
        · simp at h

theorem byte_drop (s : ByteArray) (j : Nat) (hj : j < s.size) : s.data.toList.drop j = s[j] :: s.data.toList.drop (j + 1) := by
  rw [List.drop_eq_getElem_cons (by simpa using hj)]; rfl

theorem byte_eq (c d : UInt8) (h : (c.toNat : Int) = d.toNat) : c = d := by
  apply UInt8.toNat_inj.1; omega

theorem stk_zero {s : ByteArray} {j : Nat} {ts : List T} (hj : j < s.size) (h : stk (s.data.toList.drop (j + 1)) = some ts) (hc : ((s[j]'hj).toNat : Int) = 48) :
    stk (s.data.toList.drop j) = some (.nil :: ts) := by
  rw [byte_drop s j hj, byte_eq s[j] 48 hc]
  simp [stk, h]

theorem stk_one {s : ByteArray} {j : Nat} {a b : T} {r : List T} (hj : j < s.size) (h : stk (s.data.toList.drop (j + 1)) = some (a :: b :: r)) (hc : ((s[j]'hj).toNat : Int) = 49) :
    stk (s.data.toList.drop j) = some (.node a b :: r) := by
  rw [byte_drop s j hj, byte_eq s[j] 49 hc]
  simp [stk, h]

theorem stk_bad {s : ByteArray} {j : Nat} {ts : List T} (hj : j < s.size) (h : stk (s.data.toList.drop (j + 1)) = some ts) (hc : ¬ ((s[j]'hj).toNat : Int) = 48)
    (h2 : ((s[j]'hj).toNat : Int) = 49 → ts.length ≤ 1) : stk (s.data.toList.drop j) = none := by
  rw [byte_drop s j hj]
  simp only [stk, h]
  rw [if_neg (fun e => hc (by rw [e]; rfl))]
  split
  · rename_i e
    have := h2 (by rw [e]; rfl)
    split
    · simp at this
    · rfl
  · rfl

theorem treeOf_none {s : List UInt8} {j : Nat} (h : stk (s.drop j) = none) : treeOf s = none := by simp [treeOf, stk_none s j h]
theorem treeOf_stk {s : List UInt8} {ts : List T} (h : stk (s.drop 0) = some ts) : treeOf s = match ts with | [t] => some t | _ => none := by
  simp only [List.drop_zero] at h
  unfold treeOf
  rw [h]
  match ts with
  | [] => rfl
  | [_] => rfl
  | _ :: _ :: _ => rfl

theorem StkAt.two {ty e : TypeId} {w : World} {B cap : Nat} {ao : Option Addr} {a b : T} {r : List T} (h : StkAt ty e w B ao cap (a :: b :: r)) :
    ∃ g pa pb, ao = some ⟨g, 0, none⟩ ∧ B ≤ g ∧ g < w.heap.size ∧ w.cell? ⟨g, r.length + 1, none⟩ = some (.pointer pa) ∧ w.cell? ⟨g, r.length, none⟩ = some (.pointer pb) ∧
      Tr ty w a pa ∧ Tr ty w b pb ∧ StkAt ty e w B (some ⟨g, 0, none⟩) cap r ∧ r.length + 2 ≤ cap := by
  obtain ⟨ps, hown, pa, _, rfl, ha, pb, pr, rfl, hb, hr⟩ := h
  have hl := Trs.len _ _ hr
  simp only [List.length_cons] at hown
  rcases hown.2 with ⟨_, h0⟩ | ⟨g, cap', cur, hv, hB, hg, hcap, _⟩
  · omega
  · simp only [Value.slice.injEq] at hv
    obtain ⟨rfl, _, rfl⟩ := hv
    have hca := hown.cellAt (r.length + 1) (by omega)
    have hcb := hown.cellAt r.length (by omega)
    simp only [List.reverse_cons, List.append_assoc, List.cons_append, List.nil_append, List.map_append, List.map_cons, List.map_nil] at hca hcb hown
    rw [List.getElem?_append_right (by simp [hl])] at hca hcb
    simp [hl] at hca hcb
    refine ⟨g, pa, pb, rfl, hB, lt_of_block hg, hca, hcb, ha, hb, ⟨pr, ?_, hr⟩, hcap⟩
    refine ownsRow_pop (last := [Value.pointer pb]) (by simp [hl]) (ownsRow_pop (last := [Value.pointer pa]) (by simp [hl]) ?_)
    simpa using hown

theorem two_of_len {ts : List T} {m : Nat} (h : ts.length = m + 2) : ∃ a b r, ts = a :: b :: r ∧ r.length = m := by
  match ts, h with
  | a :: b :: r, h => exact ⟨a, b, r, rfl, by simpa using h⟩

def sizes : List T → Nat
  | [] => 0
  | t :: ts => t.size + sizes ts

theorem stk_sizes : ∀ (l : List UInt8) (ts : List T), stk l = some ts → sizes ts = l.length
  | [], ts, h => by simp only [stk, Option.some.injEq] at h; subst h; simp [sizes]
  | c :: l, ts, h => by
    simp only [stk] at h
    cases h1 : stk l with
    | none => rw [h1] at h; simp at h
    | some us =>
      have := stk_sizes l us h1
      rw [h1] at h
      simp only at h
      split at h
      · simp only [Option.some.injEq] at h; subst h; simp [sizes, T.size]; omega
      · split at h
        · split at h
          · simp only [Option.some.injEq] at h; subst h; simp [sizes, T.size] at this ⊢; omega
          · simp at h
        · simp at h

/-- the characters of a tree -/
def enc : T → List UInt8
  | .nil => [48]
  | .node a b => 49 :: (enc a ++ enc b)

def encS : List T → List UInt8
  | [] => []
  | t :: ts => enc t ++ encS ts

theorem enc_len : ∀ t : T, (enc t).length = t.size
  | .nil => rfl
  | .node a b => by simp [enc, T.size, enc_len a, enc_len b]; omega

theorem encS_len : ∀ ts : List T, (encS ts).length = sizes ts
  | [] => rfl
  | t :: ts => by simp [encS, sizes, enc_len t, encS_len ts]

theorem stk_encS : ∀ (l : List UInt8) (ts : List T), stk l = some ts → l = encS ts
  | [], ts, h => by simp only [stk, Option.some.injEq] at h; subst h; rfl
  | c :: l, ts, h => by
    simp only [stk] at h
    cases h1 : stk l with
    | none => rw [h1] at h; simp at h
    | some us =>
      have := stk_encS l us h1
      rw [h1] at h
      simp only at h
      split at h
      · rename_i hc
        simp only [Option.some.injEq] at h; subst h; subst hc; simp [encS, enc, this]
      · split at h
        · rename_i hc
          split at h
          · simp only [Option.some.injEq] at h; subst h; subst hc; simp [encS, enc, this]
          · simp at h
        · simp at h

theorem stk_app : ∀ (t : T) (l : List UInt8) (ts : List T), stk l = some ts → stk (enc t ++ l) = some (t :: ts)
  | .nil, l, ts, h => by simp [enc, stk, h]
  | .node a b, l, ts, h => by
    have h1 := stk_app a (enc b ++ l) (b :: ts) (stk_app b l ts h)
    simp [enc, stk, h1]

theorem stk_of_encS : ∀ ts : List T, stk (encS ts) = some ts
  | [] => rfl
  | t :: ts => stk_app t (encS ts) ts (stk_of_encS ts)

theorem treeOf_enc (t : T) : treeOf (enc t) = some t := by
  have := stk_of_encS [t]
  simp [encS] at this
  simp [treeOf, this]

theorem treeOf_some {l : List UInt8} {t : T} (h : treeOf l = some t) : l = enc t := by
  unfold treeOf at h
  split at h
  · rename_i u hu
    simp only [Option.some.injEq] at h
    subst h
    have := stk_encS _ _ hu
    simpa [encS] using this
  · simp at h

theorem enc_inj {a b : T} (h : enc a = enc b) : a = b := by
  have h1 := treeOf_enc a
  rw [h, treeOf_enc b] at h1
  exact (Option.some.inj h1).symm

theorem lt_sizes : ∀ ts : List T, ts.length ≤ sizes ts
  | [] => Nat.le_refl _
  | t :: ts => by have := lt_sizes ts; have := t.size_pos; simp [sizes]; omega

/-- a slice of bytes that the call owns -/
def BytesAt (e : TypeId) (w : World) (B : Nat) (ao : Option Addr) (cap : Nat) (l : List UInt8) : Prop := w.ownsRow B e 1 (.slice ao l.length cap) l.length (Lib.byteCells l)

theorem bytesAt_nil (e : TypeId) (w : World) (B : Nat) : BytesAt e w B none 0 [] := World.ownsRow_nil _ _ _ _

theorem BytesAt.push {e : TypeId} {w1 : World} {B cap n g : Nat} {l : List UInt8} {c : UInt8} (hn : n = l.length)
    (h1 : w1.ownsRow B e 1 (.slice (some ⟨g, 0, none⟩) (n + 1) cap) (n + 1) (Lib.byteCells l ++ [.int .u8 c.toNat])) : BytesAt e w1 B (some ⟨g, 0, none⟩) cap (l ++ [c]) := by
  subst hn
  unfold BytesAt
  simpa [Lib.byteCells] using h1

theorem BytesAt.cells {e : TypeId} {w : World} {B cap : Nat} {ao : Option Addr} {l : List UInt8} (h : BytesAt e w B ao cap l) (hl : l ≠ []) :
    ∃ g, ao = some ⟨g, 0, none⟩ ∧ ∀ j (hj : j < l.length), w.cell? ((⟨g, 0, none⟩ : Addr).add j) = some (.int .u8 (l[j].toNat : Int)) := by
  rcases h.2 with ⟨_, h0⟩ | ⟨g, cap', cur, hv, hB, hg, hcap, _⟩
  · exact absurd (List.length_eq_zero_iff.1 h0) hl
  · simp only [Value.slice.injEq] at hv
    obtain ⟨rfl, _, rfl⟩ := hv
    refine ⟨g, rfl, fun j hj => ?_⟩
    have := h.cellAt j (by omega)
    have e1 : (⟨g, 0, none⟩ : Addr).add j = ⟨g, j, none⟩ := by unfold Addr.add; split <;> simp_all
    rw [e1, this]
    simp [Lib.byteCells, hj]

theorem run_back {P : Program} {e : TypeId} {w : World} {B cap : Nat} {ao : Option Addr} {l : List UInt8} (h : BytesAt e w B ao cap l) (src dst : TypeId)
    (hs : P.underlying src = some (.slice e)) (he : P.underlying e = some (.int .u8)) (hd : P.underlying dst = some .string) (hl : l ≠ []) :
    (convert src dst (.slice ao l.length cap)).run P w = .ok (.string ⟨l.toArray⟩) w := by
  obtain ⟨g, rfl, hc⟩ := h.cells hl
  exact run_convert_bytes_back w src dst e _ cap l hs he hd hc

end Go.Proofs.Ythmnbciefpkpmaa
