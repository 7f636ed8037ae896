/- The walk of Same of the second reference: whether two programs are equal. -/
import Derived.Test.YthmnbciefpkpmaaIns
import Derived.Laws.StructEq
namespace Go.Proofs.Ythmnbciefpkpmaa
open Go.RowKit

theorem drewN_drewN' {w wr : World} {n : Nat} (h : wr = w.drewN n) (m : Nat) : wr.drewN m = w.drewN (n + m) := by
  subst h; rw [World.drewN_drewN]

/-- two instructions are equal -/
def eqI (x y : Ins) : Bool := x.op == y.op && (x.a == y.a && (x.b == y.b && (x.c == y.c && x.tree.toList == y.tree.toList)))

theorem ba_toList_inj {a b : ByteArray} (h : a.toList = b.toList) : a = b := by
  rw [ByteArray.toList_eq, ByteArray.toList_eq] at h
  cases a; cases b
  simp only [ByteArray.mk.injEq] at h ⊢
  exact Array.toList_inj.1 h

theorem eqI_iff (x y : Ins) : eqI x y = true ↔ x = y := by
  cases x; cases y
  simp only [eqI, Bool.and_eq_true, beq_iff_eq, Ins.mk.injEq]
  constructor
  · rintro ⟨h1, h2, h3, h4, h5⟩
    exact ⟨h1, h2, h3, h4, ba_toList_inj h5⟩
  · rintro ⟨h1, h2, h3, h4, h5⟩
    exact ⟨h1, h2, h3, h4, by rw [h5]⟩

/-- two programs are equal -/
def sameP : List Ins → List Ins → Bool
  | [], [] => true
  | x :: l, y :: m => eqI x y && sameP l m
  | _, _ => false

theorem sameP_iff : ∀ (l m : List Ins), sameP l m = true ↔ l = m
  | [], [] => by simp [sameP]
  | [], _ :: _ => by simp [sameP]
  | _ :: _, [] => by simp [sameP]
  | x :: l, y :: m => by simp [sameP, eqI_iff, sameP_iff l m]

theorem sameP_len : ∀ (l m : List Ins), l.length ≠ m.length → sameP l m = false
  | [], [], h => absurd rfl h
  | [], _ :: _, _ => rfl
  | _ :: _, [], _ => rfl
  | x :: l, y :: m, h => by
    simp only [sameP]
    rw [sameP_len l m (by simpa using h), Bool.and_false]

theorem same_drop (l m : List Ins) (k : Nat) (h1 : k < l.length) (h2 : k < m.length) : sameP (l.drop k) (m.drop k) = (eqI (l.getD k default) (m.getD k default) && sameP (l.drop (k + 1)) (m.drop (k + 1))) := by
  rw [drop_ins l k h1, drop_ins m k h2]
  rfl

theorem ins_guard : Try.prog.eqGuardType Try.prog.depth 57 = false := by kernel_rfl
theorem ins_struct : Try.prog.underlying 57 = some (.struct (Try.prog.fieldsOf 57)) := by kernel_rfl
theorem ins_held : Try.prog.stoodInHeld 57 = false := by kernel_rfl
theorem ins_fields : ((Try.prog.fieldsOf 57).toList.map fun f => (f.name, f.type, f.offset)) = [("Op", 3, 0), ("A", 3, 1), ("B", 3, 2), ("C", 3, 3), ("Tree", 9, 4)] := by kernel_rfl

set_option maxRecDepth 100000 in
theorem run_eq_ins (x y : Ins) (w : World) : (Op.equalIn 10000 57 (.agg #[.int .i64 x.op, .int .i64 x.a, .int .i64 x.b, .int .i64 x.c, .string x.tree]) (.agg #[.int .i64 y.op, .int .i64 y.a, .int .i64 y.b, .int .i64 y.c, .string y.tree])).run Try.prog w = .ok (eqI x y) w := by
  refine (run_equalIn_struct w 9999 57 _ _ ins_struct ins_held).trans ?_
  have hf := ins_fields
  generalize (Try.prog.fieldsOf 57).toList = fs at *
  simp only [List.map_eq_cons_iff, List.map_eq_nil_iff, Prod.mk.injEq] at hf
  obtain ⟨f0, l0, rfl, ⟨a0, b0, c0⟩, f1, l1, rfl, ⟨a1, b1, c1⟩, f2, l2, rfl, ⟨a2, b2, c2⟩, f3, l3, rfl, ⟨a3, b3, c3⟩, f4, l4, rfl, ⟨a4, b4, c4⟩, rfl⟩ := hf
  have hi := Try.underlying3
  have hs := Try.underlying9
  have e1 : ∀ (a b : Int) (w : World), (Op.equalIn 9999 3 (.int .i64 a) (.int .i64 b)).run Try.prog w = .ok (a == b) w := fun a b w => run_equalIn_int w 9998 3 .i64 .i64 a b hi
  have e2 : ∀ (a b : ByteArray) (w : World), (Op.equalIn 9999 9 (.string a) (.string b)).run Try.prog w = .ok (a.toList == b.toList) w := fun a b w => run_equalIn_string w 9998 9 a b hs
  simp only [Op.eqFields, a0, a1, a2, a3, a4, b0, b1, b2, b3, b4, c0, c1, c2, c3, c4]
  have hpi : ∀ (xs : Array Value) (o : Nat) (k : Int) (w : World), xs[o]? = some (.int .i64 k) → (part 3 xs o).run Try.prog w = .ok (.int .i64 k) w := by
    intro xs o k w h
    simp [part, h, go_sem]
  have hps : ∀ (xs : Array Value) (o : Nat) (k : ByteArray) (w : World), xs[o]? = some (.string k) → (part 9 xs o).run Try.prog w = .ok (.string k) w := by
    intro xs o k w h
    simp [part, h, go_sem]
  have n0 : ("Op" ≠ "_") = True := by decide
  have n1 : ("A" ≠ "_") = True := by decide
  have n2 : ("B" ≠ "_") = True := by decide
  have n3 : ("C" ≠ "_") = True := by decide
  have n4 : ("Tree" ≠ "_") = True := by decide
  simp only [n0, n1, n2, n3, n4, if_true, Sem.run_bind]
  rw [hpi _ 0 x.op w rfl]
  simp only [Result.andThen_ok]
  rw [hpi _ 0 y.op w rfl]
  simp only [Result.andThen_ok]
  rw [e1]
  simp only [Result.andThen_ok, Sem.run_ite, Sem.run_pure, Sem.run_bind]
  rw [hpi _ 1 x.a w rfl]
  simp only [Result.andThen_ok]
  rw [hpi _ 1 y.a w rfl]
  simp only [Result.andThen_ok]
  rw [e1]
  simp only [Result.andThen_ok]
  rw [hpi _ 2 x.b w rfl]
  simp only [Result.andThen_ok]
  rw [hpi _ 2 y.b w rfl]
  simp only [Result.andThen_ok]
  rw [e1]
  simp only [Result.andThen_ok]
  rw [hpi _ 3 x.c w rfl]
  simp only [Result.andThen_ok]
  rw [hpi _ 3 y.c w rfl]
  simp only [Result.andThen_ok]
  rw [e1]
  simp only [Result.andThen_ok]
  rw [hps _ 4 x.tree w rfl]
  simp only [Result.andThen_ok]
  rw [hps _ 4 y.tree w rfl]
  simp only [Result.andThen_ok]
  rw [e2]
  simp only [Result.andThen_ok]
  unfold eqI
  generalize (x.op == y.op) = b0
  generalize (x.a == y.a) = b1
  generalize (x.b == y.b) = b2
  generalize (x.c == y.c) = b3
  generalize (x.tree.toList == y.tree.toList) = b4
  cases b0 <;> cases b1 <;> cases b2 <;> cases b3 <;> cases b4 <;> rfl

theorem run_neq_ins (x y : Ins) (w : World) : (binOp .neq 57 (.agg #[.int .i64 x.op, .int .i64 x.a, .int .i64 x.b, .int .i64 x.c, .string x.tree]) (.agg #[.int .i64 y.op, .int .i64 y.a, .int .i64 y.b, .int .i64 y.c, .string y.tree])).run Try.prog w = .ok (.bool (!eqI x y)) w := by
  rw [run_neq_struct, run_eq_ins]
  rfl

set_option maxRecDepth 100000 in
theorem same_c (ao bo : Option Addr) (b o c p cap cap' : Nat) (l m : List Ins) (w : World) (hl : ProgIn w ao b o l) (hm : ProgIn w bo c p m) (hlen : l.length ≤ 140737488351232) (hlen2 : m.length ≤ 140737488351232) :
    Calls Try.prog 48 #[.slice ao l.length cap, .slice bo m.length cap'] w fun e w' => e = .returned (.bool (sameP l m)) ∧ ∃ n, w' = w.drewN n := by
  by_cases hne : l.length = m.length
  · generalize hR : sameP l m = R at *
    have HR := Lib.hid hR
    clear hR
    have hbe : ((l.length : Int) != (m.length : Int)) = false := by simp [hne]
    go_enter Try.func48, Try.ntmps48
    go_wp2_with fail
    go_loopw [5] (fun i wr => ∃ (k : Nat), k ≤ l.length ∧ i = .int .i64 k ∧ sameP (l.drop k) (m.drop k) = R ∧ ∃ n, wr = w.drewN n) (fun i _ => l.length - (intOf i).toNat)
    case atStart => exact ⟨0, by omega, rfl, HR.out, 0, rfl⟩
    case round =>
      obtain ⟨k, hk, rfl, hs, n, hw⟩ := hrel
      have Hw := Lib.hid hw
      have hbel : Below w.heap.size w wr := by rw [hw]; exact below_drewN (Below.refl _ _) n
      clear hw
      by_cases hlt : k < l.length
      · have hlt2 : k < m.length := by omega
        have hi := (hl.ins k hlt).below hbel (hl.lt (by intro e; subst e; simp at hlt))
        have hj := (hm.ins k hlt2).below hbel (hm.lt (by intro e; subst e; simp at hlt2))
        obtain rfl := hl.at_ (by intro e; subst e; simp at hlt)
        obtain rfl := hm.at_ (by intro e; subst e; simp at hlt2)
        rw [same_drop l m k hlt hlt2] at hs
        generalize l.getD k default = x at *
        generalize m.getD k default = y at *
        obtain ⟨c0, c1, c2, c3, c4⟩ := hi
        obtain ⟨d0, d1, d2, d3, d4⟩ := hj
        have Hs := Lib.hid hs
        have i1 : (0 : Int) ≤ (k : Int) := by omega
        have i2 : (k : Int) < (l.length : Int) := by omega
        have i3 : (k : Int) < (m.length : Int) := by omega
        clear hs hne hbe hlt hlt2 hbel
        have hnq := fun w => run_neq_ins x y w
        have hgd := ins_guard
        cases he : eqI x y with
        | false =>
          rw [he] at hnq
          have hs2 := Hs.out
          rw [he, Bool.false_and] at hs2
          have Hs2 := Lib.hid hs2
          clear he hs2
          go_wp2_with fail
          go_quiet (fail)
          go_wp2_with fail
          go_ret
          exact ⟨by rw [← Hs2.out]; rfl, _, (drewN_drewN' Hw.out _)⟩
        | true =>
          rw [he] at hnq
          have hs2 := Hs.out
          rw [he, Bool.true_and] at hs2
          have Hs2 := Lib.hid hs2
          clear he hs2
          go_wp2_with fail
          go_quiet (fail)
          go_wp2_with fail
          go_roundw
          case rel => exact ⟨k + 1, by omega, by go_num, Hs2.out, _, drewN_drewN' Hw.out _⟩
          case measure => simp [intOf]; omega
      · obtain rfl : k = l.length := by omega
        rw [List.drop_length, hne, List.drop_length] at hs
        have Hs := Lib.hid hs
        clear hs hlt
        go_wp2_with fail
        go_ret
        exact ⟨by rw [← Hs.out]; rfl, n, Hw.out⟩
  · rw [sameP_len l m hne]
    have hbe : ((l.length : Int) != (m.length : Int)) = true := by simp; omega
    clear hne
    go_enter Try.func48, Try.ntmps48
    go_wp2_with fail
    go_ret
    exact ⟨rfl, 0, rfl⟩

end Go.Proofs.Ythmnbciefpkpmaa
