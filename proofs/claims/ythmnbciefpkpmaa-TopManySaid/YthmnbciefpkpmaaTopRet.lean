/- Contracts of narcissustop: returns, lasts; twin. -/
import Derived.Test.YthmnbciefpkpmaaTopPlay
namespace Go.Proofs.Ythmnbciefpkpmaa
open Go.RowKit

set_option maxRecDepth 100000 in
theorem returns_c (ao : Option Addr) (b o cap : Nat) (l : List Ins) (px py : Option Addr) (x y : T) (steps ms : Nat) (w : World) (hp : ProgIn w ao b o l) (hg : goodP 4000 2000000 l = true) (hlen : l.length ≤ 140737488351232)
    (hx : Tr 171 w x px) (hy : Tr 171 w y py) (hxs : x.size ≤ 100000000) (hys : y.size ≤ 1000000000) (hf : steps ≤ 1000000000) (hR : followP l x steps = (y, steps, 0, ms)) :
    Calls Try.prog 76 #[.slice ao l.length cap, .int .i64 0, .pointer px, .pointer py, .int .i64 steps] w fun e w' => e = .returned (.bool true) ∧ Below w.heap.size w w' := by
  have HR := Lib.hid hR
  have hst : ((steps : Int) == (steps : Int)) = true := by simp
  clear hR
  go_enter Try.func76, Try.ntmps76
  go_wp2_with fail
  refine (whole_c ao b o cap l _ hp hlen).mono ?_
  rintro e w1 ⟨rfl, hb1⟩
  go_wp2_with fail
  refine (play_c ao b o cap l 4000 px x steps _ y steps 0 ms (hp.below hb1) hg (by omega) (Tr.keep (KeepTy.below hb1) _ _ hx) hxs hf HR.out).mono ?_
  rintro e w2 ⟨⟨p, rfl, ht⟩, hb2⟩
  have hy2 := Tr.keep ((KeepTy.below hb1).trans (KeepTy.below hb2)) _ _ hy
  go_wp2_with fail
  refine (equal_c p py y y _ ht hy2 hys hys).mono ?_
  rintro e w3 ⟨rfl, hb3⟩
  go_wp2_with fail
  go_ret
  exact ⟨by simp, (hb1.trans (hb2.mono hb1.size)).trans (hb3.mono (Nat.le_trans hb1.size hb2.size))⟩

set_option maxRecDepth 100000 in
theorem lasts_c (ao : Option Addr) (b o cap : Nat) (l : List Ins) (px : Option Addr) (x y : T) (steps k how ms : Nat) (w : World) (hp : ProgIn w ao b o l) (hg : goodP 4000 2000000 l = true) (hlen : l.length ≤ 140737488351232)
    (hx : Tr 171 w x px) (hxs : x.size ≤ 100000000) (hf : steps ≤ 1000000000) (hR : followP l x steps = (y, k, how, ms)) (hh : how ≠ 0) :
    Calls Try.prog 77 #[.slice ao l.length cap, .int .i64 0, .pointer px, .int .i64 steps] w fun e w' => e = .returned (.bool true) ∧ Below w.heap.size w w' := by
  have HR := Lib.hid hR
  have hst : ((how : Int) != 0) = true := by rw [bne_iff_ne]; omega
  clear hR hh
  go_enter Try.func77, Try.ntmps77
  go_wp2_with fail
  refine (whole_c ao b o cap l _ hp hlen).mono ?_
  rintro e w1 ⟨rfl, hb1⟩
  go_wp2_with fail
  refine (play_c ao b o cap l 4000 px x steps _ y k how ms (hp.below hb1) hg (by omega) (Tr.keep (KeepTy.below hb1) _ _ hx) hxs hf HR.out).mono ?_
  rintro e w2 ⟨⟨p, rfl, ht⟩, hb2⟩
  go_wp2_with fail
  go_ret
  exact ⟨rfl, hb1.trans (hb2.mono hb1.size)⟩

end Go.Proofs.Ythmnbciefpkpmaa
