/- The contract of narcissustop.good: a program is valid and small. -/
import Derived.Test.YthmnbciefpkpmaaIns
import Derived.Test.YthmnbciefpkpmaaTopGrow
namespace Go.Proofs.Ythmnbciefpkpmaa
open Go.RowKit

set_option maxRecDepth 100000 in
set_option maxHeartbeats 4000000 in
theorem good_c (ao : Option Addr) (b o cap : Nat) (l : List Ins) (most chars : Int) (w : World) (hp : ProgIn w ao b o l) (hmc : chars ≤ 1000000000) (hmm : most ≤ 1000000000) (hlen : l.length ≤ 140737488351232) :
    Calls Try.prog 69 #[.slice ao l.length cap, .int .i64 most, .int .i64 chars] w fun e w' => e = .returned (.bool (goodP most chars l)) ∧ Below w.heap.size w w' := by
  unfold goodP
  by_cases hm : (l.length : Int) > most
  · have hd : decide ((l.length : Int) ≤ most) = false := by simp; omega
    rw [hd]
    clear hd
    go_enter Try.func69, Try.ntmps69
    go_wp2_with fail
    go_ret
    exact ⟨rfl, Below.refl _ _⟩
  · have hd : decide ((l.length : Int) ≤ most) = true := by simp; omega
    rw [hd, Bool.true_and]
    clear hd
    generalize hg : goodTo chars l.length 0 0 l = G
    have Hg := Lib.hid hg
    clear hg
    go_enter Try.func69, Try.ntmps69
    go_wp2_with fail
    go_loopw [7, 8] (fun n i wr => ∃ (k : Nat) (all : Int), k ≤ l.length ∧ i = .int .i64 k ∧ n = .int .i64 all ∧ 0 ≤ all ∧ (all ≤ chars ∨ all = 0) ∧ goodTo chars l.length k all (l.drop k) = G ∧ Below w.heap.size w wr) (fun _ i _ => l.length - (intOf i).toNat)
    case atStart => exact ⟨0, 0, by omega, rfl, rfl, by omega, .inr rfl, Hg.out, Below.refl _ _⟩
    case round =>
      obtain ⟨k, all, hk, rfl, rfl, ha0, ha1, hgt, hbel⟩ := hrel
      have ha1 : all ≤ 1000000000 := by omega
      have Hg := Lib.hid hgt
      clear hgt
      by_cases hlt : k < l.length
      · have hi := (hp.ins k hlt).below hbel (hp.lt (by intro e; subst e; simp at hlt))
        have hsz := hp.sz _ (getD_mem l k hlt)
        obtain rfl := hp.at_ (by intro e; subst e; simp at hlt)
        have hdrop := drop_ins l k hlt
        generalize l.getD k default = x at *
        have Hdrop := Lib.hid hdrop
        obtain ⟨c0, c1, c2, c3, c4⟩ := hi
        have hsize := hbel.size
        clear hdrop
        by_cases hall : chars < all + x.tree.size
        · have hall2 : ¬ all + x.tree.size ≤ chars := by omega
          have hG : G = false := by rw [← Hg.out, Hdrop.out, goodTo]; simp [insOk, hall2]
          subst hG
          go_wp2_with (go_at_call 128; refine (register_c _ _).mono ?_; rintro e w' ⟨rfl, rfl⟩)
          go_ret
          exact ⟨rfl, (hbel.alloc hsize _)⟩
        · have hall2 : all + x.tree.size ≤ chars := by omega
          clear hall
          cases ha : regB x.a with
          | false =>
              have hG : G = false := by rw [← Hg.out, Hdrop.out, goodTo]; simp [insOk, ha]
              subst hG
              go_wp2_with (go_at_call 128; refine (register_c _ _).mono ?_; rintro e w' ⟨rfl, rfl⟩)
              go_ret
              exact ⟨rfl, (hbel.alloc hsize _)⟩
          | true =>
              by_cases h : x.op = 0
              · replace c0 : wr.cell? ⟨b, o + k * 5, none⟩ = some (.int .i64 0) := by rw [← h]; exact c0
                have H := Lib.hid h
                clear h
                by_cases hc : x.c = 0
                · have hcb : (x.c != 0) = false := by simp [hc]
                  have Hc := Lib.hid hc
                  clear hc
                  have blk : InsAt (wr.alloc (.cells #[.int .i64 0, .int .i64 x.a, .int .i64 x.b, .int .i64 x.c, .string x.tree] 57)) wr.heap.size 0 ⟨0, x.a, x.b, x.c, x.tree⟩ := ⟨by simp, by simp, by simp, by simp, by simp⟩
                  have BB : ∀ {w2 : World}, Below (wr.heap.size + 1) (wr.alloc (.cells #[.int .i64 0, .int .i64 x.a, .int .i64 x.b, .int .i64 x.c, .string x.tree] 57)) w2 → Below w.heap.size w w2 := fun h2 => (hbel.alloc hsize _).trans (h2.mono (by omega))
                  have BK : ∀ {w2 : World}, Below (wr.heap.size + 1) (wr.alloc (.cells #[.int .i64 0, .int .i64 x.a, .int .i64 x.b, .int .i64 x.c, .string x.tree] 57)) w2 → w2.cell? ⟨wr.heap.size, 2, none⟩ = some (.int .i64 x.b) := fun h2 => (h2.cell (p := ⟨wr.heap.size, 2, none⟩) (by simp)).trans blk.c2
                  cases ht : (if (x.tree.size : Int) > chars then none else treeOf x.tree.data.toList) with
                  | none =>
                    have Ht := Lib.hid ht
                    clear ht
                    have hG : G = false := by rw [← Hg.out, Hdrop.out, goodTo]; simp [insOk, H.out, Ht.out]
                    subst hG
                    go_wp2_with (first | (go_at_call 128; refine (register_c _ _).mono ?_; rintro e w' ⟨rfl, rfl⟩) | (go_at_call 68; refine (grow_no _ _ _ hmc Ht.out).mono ?_; rintro e w2 ⟨rfl, hb2⟩))
                    go_ret
                    exact ⟨rfl, (BB (by simpa using hb2))⟩
                  | some t =>
                    have Ht := Lib.hid ht
                    clear ht
                    by_cases hb : x.b = 0
                    · have hbb : (x.b != 0) = false := by simp [hb]
                      have Hb := Lib.hid hb
                      clear hb
                      have HI := Lib.hid (show insOk chars k l.length x = true by simp [insOk, H.out, Ht.out, ha, Hb.out, Hc.out])
                      go_wp2_with (first | (go_at_call 128; refine (register_c _ _).mono ?_; rintro e w' ⟨rfl, rfl⟩) | (go_at_call 68; refine (grow_yes _ _ t _ hmc Ht.out).mono ?_; rintro e w2 ⟨p, rfl, _, hb2⟩; rw [World.size_alloc] at hb2; have k2 := BK hb2))
                      go_roundw
                      case rel =>
                        refine ⟨k + 1, all + x.tree.size, by omega, by go_num, rfl, by omega, .inl hall2, ?_, (BB hb2)⟩
                        have := Hg.out
                        rw [Hdrop.out, goodTo, HI.out] at this
                        simpa [hall2] using this
                      case measure => simp [intOf]; omega
                    · have hbb : (x.b != 0) = true := by simp [hb]
                      have hG : G = false := by rw [← Hg.out, Hdrop.out, goodTo]; simp [insOk, H.out, Ht.out, hb]
                      subst hG
                      go_wp2_with (first | (go_at_call 128; refine (register_c _ _).mono ?_; rintro e w' ⟨rfl, rfl⟩) | (go_at_call 68; refine (grow_yes _ _ t _ hmc Ht.out).mono ?_; rintro e w2 ⟨p, rfl, _, hb2⟩; rw [World.size_alloc] at hb2; have k2 := BK hb2))
                      go_ret
                      exact ⟨rfl, (BB hb2)⟩
                · have hcb : (x.c != 0) = true := by simp [hc]
                  have hG : G = false := by rw [← Hg.out, Hdrop.out, goodTo]; simp [insOk, H.out, hc]
                  subst hG
                  go_wp2_with (go_at_call 128; refine (register_c _ _).mono ?_; rintro e w' ⟨rfl, rfl⟩)
                  go_ret
                  exact ⟨rfl, (hbel.alloc hsize _)⟩
              · have n0 := h
                clear h
                by_cases h : x.op = 1
                · replace c0 : wr.cell? ⟨b, o + k * 5, none⟩ = some (.int .i64 1) := by rw [← h]; exact c0
                  have H := Lib.hid h
                  clear h
                  by_cases ht : x.tree.toList = []
                  · have htz : x.tree.size = 0 := size_of_toList ht
                    have Htz := Lib.hid htz
                    clear htz
                    by_cases hc : x.c = 0
                    · have hcb : (x.c != 0) = false := by simp [hc]
                      have Hc := Lib.hid hc
                      clear hc
                      cases hb : regB x.b with
                      | false =>
                        have hG : G = false := by rw [← Hg.out, Hdrop.out, goodTo]; simp [insOk, H.out, hb]
                        subst hG
                        go_wp2_with (go_at_call 128; refine (register_c _ _).mono ?_; rintro e w' ⟨rfl, rfl⟩)
                        go_ret
                        exact ⟨rfl, (hbel.alloc hsize _)⟩
                      | true =>
                        have HI := Lib.hid (show insOk chars k l.length x = true by simp [insOk, H.out, hb, ha, Htz.out, Hc.out])
                        go_wp2_with (go_at_call 128; refine (register_c _ _).mono ?_; rintro e w' ⟨rfl, rfl⟩)
                        go_roundw
                        case rel =>
                          refine ⟨k + 1, all + x.tree.size, by omega, by go_num, rfl, by omega, .inl hall2, ?_, (hbel.alloc hsize _)⟩
                          have := Hg.out
                          rw [Hdrop.out, goodTo, HI.out] at this
                          simpa [hall2] using this
                        case measure => simp [intOf]; omega
                    · have hcb : (x.c != 0) = true := by simp [hc]
                      have hG : G = false := by rw [← Hg.out, Hdrop.out, goodTo]; simp [insOk, H.out, hc]
                      subst hG
                      go_wp2_with (go_at_call 128; refine (register_c _ _).mono ?_; rintro e w' ⟨rfl, rfl⟩)
                      go_ret
                      exact ⟨rfl, (hbel.alloc hsize _)⟩
                  · have htz : ¬ x.tree.size = 0 := fun e => ht (toList_of_size e)
                    have Htz := Lib.hid htz
                    clear htz
                    have hG : G = false := by rw [← Hg.out, Hdrop.out, goodTo]; simp [insOk, H.out, Htz.out]
                    subst hG
                    go_wp2_with (go_at_call 128; refine (register_c _ _).mono ?_; rintro e w' ⟨rfl, rfl⟩)
                    go_ret
                    exact ⟨rfl, (hbel.alloc hsize _)⟩
                · have n1 := h
                  clear h
                  by_cases h : x.op = 2
                  · replace c0 : wr.cell? ⟨b, o + k * 5, none⟩ = some (.int .i64 2) := by rw [← h]; exact c0
                    have H := Lib.hid h
                    clear h
                    by_cases ht : x.tree.toList = []
                    · have htz : x.tree.size = 0 := size_of_toList ht
                      have Htz := Lib.hid htz
                      clear htz
                      cases hb : regB x.b with
                      | false =>
                        have hG : G = false := by rw [← Hg.out, Hdrop.out, goodTo]; simp [insOk, H.out, hb]
                        subst hG
                        go_wp2_with (go_at_call 128; refine (register_c _ _).mono ?_; rintro e w' ⟨rfl, rfl⟩)
                        go_ret
                        exact ⟨rfl, (hbel.alloc hsize _)⟩
                      | true =>
                        cases hc : regB x.c with
                        | false =>
                          have hG : G = false := by rw [← Hg.out, Hdrop.out, goodTo]; simp [insOk, H.out, hb, hc]
                          subst hG
                          go_wp2_with (go_at_call 128; refine (register_c _ _).mono ?_; rintro e w' ⟨rfl, rfl⟩)
                          go_ret
                          exact ⟨rfl, (hbel.alloc hsize _)⟩
                        | true =>
                          have HI := Lib.hid (show insOk chars k l.length x = true by simp [insOk, H.out, hb, hc, ha, Htz.out])
                          go_wp2_with (go_at_call 128; refine (register_c _ _).mono ?_; rintro e w' ⟨rfl, rfl⟩)
                          go_roundw
                          case rel =>
                            refine ⟨k + 1, all + x.tree.size, by omega, by go_num, rfl, by omega, .inl hall2, ?_, (hbel.alloc hsize _)⟩
                            have := Hg.out
                            rw [Hdrop.out, goodTo, HI.out] at this
                            simpa [hall2] using this
                          case measure => simp [intOf]; omega
                    · have htz : ¬ x.tree.size = 0 := fun e => ht (toList_of_size e)
                      have Htz := Lib.hid htz
                      clear htz
                      have hG : G = false := by rw [← Hg.out, Hdrop.out, goodTo]; simp [insOk, H.out, Htz.out]
                      subst hG
                      go_wp2_with (go_at_call 128; refine (register_c _ _).mono ?_; rintro e w' ⟨rfl, rfl⟩)
                      go_ret
                      exact ⟨rfl, (hbel.alloc hsize _)⟩
                  · have n2 := h
                    clear h
                    by_cases h : x.op = 3
                    · replace c0 : wr.cell? ⟨b, o + k * 5, none⟩ = some (.int .i64 3) := by rw [← h]; exact c0
                      have H := Lib.hid h
                      clear h
                      by_cases ht : x.tree.toList = []
                      · have htz : x.tree.size = 0 := size_of_toList ht
                        have Htz := Lib.hid htz
                        clear htz
                        by_cases hc : x.c = 0
                        · have hcb : (x.c != 0) = false := by simp [hc]
                          have Hc := Lib.hid hc
                          clear hc
                          cases hb : regB x.b with
                          | false =>
                            have hG : G = false := by rw [← Hg.out, Hdrop.out, goodTo]; simp [insOk, H.out, hb]
                            subst hG
                            go_wp2_with (go_at_call 128; refine (register_c _ _).mono ?_; rintro e w' ⟨rfl, rfl⟩)
                            go_ret
                            exact ⟨rfl, (hbel.alloc hsize _)⟩
                          | true =>
                            have HI := Lib.hid (show insOk chars k l.length x = true by simp [insOk, H.out, hb, ha, Htz.out, Hc.out])
                            go_wp2_with (go_at_call 128; refine (register_c _ _).mono ?_; rintro e w' ⟨rfl, rfl⟩)
                            go_roundw
                            case rel =>
                              refine ⟨k + 1, all + x.tree.size, by omega, by go_num, rfl, by omega, .inl hall2, ?_, (hbel.alloc hsize _)⟩
                              have := Hg.out
                              rw [Hdrop.out, goodTo, HI.out] at this
                              simpa [hall2] using this
                            case measure => simp [intOf]; omega
                        · have hcb : (x.c != 0) = true := by simp [hc]
                          have hG : G = false := by rw [← Hg.out, Hdrop.out, goodTo]; simp [insOk, H.out, hc]
                          subst hG
                          go_wp2_with (go_at_call 128; refine (register_c _ _).mono ?_; rintro e w' ⟨rfl, rfl⟩)
                          go_ret
                          exact ⟨rfl, (hbel.alloc hsize _)⟩
                      · have htz : ¬ x.tree.size = 0 := fun e => ht (toList_of_size e)
                        have Htz := Lib.hid htz
                        clear htz
                        have hG : G = false := by rw [← Hg.out, Hdrop.out, goodTo]; simp [insOk, H.out, Htz.out]
                        subst hG
                        go_wp2_with (go_at_call 128; refine (register_c _ _).mono ?_; rintro e w' ⟨rfl, rfl⟩)
                        go_ret
                        exact ⟨rfl, (hbel.alloc hsize _)⟩
                    · have n3 := h
                      clear h
                      by_cases h : x.op = 4
                      · replace c0 : wr.cell? ⟨b, o + k * 5, none⟩ = some (.int .i64 4) := by rw [← h]; exact c0
                        have H := Lib.hid h
                        clear h
                        by_cases ht : x.tree.toList = []
                        · have htz : x.tree.size = 0 := size_of_toList ht
                          have Htz := Lib.hid htz
                          clear htz
                          by_cases hc : x.c = 0
                          · have hcb : (x.c != 0) = false := by simp [hc]
                            have Hc := Lib.hid hc
                            clear hc
                            cases hb : regB x.b with
                            | false =>
                              have hG : G = false := by rw [← Hg.out, Hdrop.out, goodTo]; simp [insOk, H.out, hb]
                              subst hG
                              go_wp2_with (go_at_call 128; refine (register_c _ _).mono ?_; rintro e w' ⟨rfl, rfl⟩)
                              go_ret
                              exact ⟨rfl, (hbel.alloc hsize _)⟩
                            | true =>
                              have HI := Lib.hid (show insOk chars k l.length x = true by simp [insOk, H.out, hb, ha, Htz.out, Hc.out])
                              go_wp2_with (go_at_call 128; refine (register_c _ _).mono ?_; rintro e w' ⟨rfl, rfl⟩)
                              go_roundw
                              case rel =>
                                refine ⟨k + 1, all + x.tree.size, by omega, by go_num, rfl, by omega, .inl hall2, ?_, (hbel.alloc hsize _)⟩
                                have := Hg.out
                                rw [Hdrop.out, goodTo, HI.out] at this
                                simpa [hall2] using this
                              case measure => simp [intOf]; omega
                          · have hcb : (x.c != 0) = true := by simp [hc]
                            have hG : G = false := by rw [← Hg.out, Hdrop.out, goodTo]; simp [insOk, H.out, hc]
                            subst hG
                            go_wp2_with (go_at_call 128; refine (register_c _ _).mono ?_; rintro e w' ⟨rfl, rfl⟩)
                            go_ret
                            exact ⟨rfl, (hbel.alloc hsize _)⟩
                        · have htz : ¬ x.tree.size = 0 := fun e => ht (toList_of_size e)
                          have Htz := Lib.hid htz
                          clear htz
                          have hG : G = false := by rw [← Hg.out, Hdrop.out, goodTo]; simp [insOk, H.out, Htz.out]
                          subst hG
                          go_wp2_with (go_at_call 128; refine (register_c _ _).mono ?_; rintro e w' ⟨rfl, rfl⟩)
                          go_ret
                          exact ⟨rfl, (hbel.alloc hsize _)⟩
                      · have n4 := h
                        clear h
                        by_cases h : x.op = 5
                        · replace c0 : wr.cell? ⟨b, o + k * 5, none⟩ = some (.int .i64 5) := by rw [← h]; exact c0
                          have H := Lib.hid h
                          clear h
                          by_cases ht : x.tree.toList = []
                          · have htz : x.tree.size = 0 := size_of_toList ht
                            have Htz := Lib.hid htz
                            clear htz
                            by_cases hc : x.c = 0
                            · have hcb : (x.c != 0) = false := by simp [hc]
                              have Hc := Lib.hid hc
                              clear hc
                              by_cases hb : x.b < -(k : Int)
                              · have hb2 : ¬ -(k : Int) ≤ x.b := by omega
                                have hG : G = false := by rw [← Hg.out, Hdrop.out, goodTo]; simp [insOk, H.out, hb2]
                                subst hG
                                go_wp2_with (go_at_call 128; refine (register_c _ _).mono ?_; rintro e w' ⟨rfl, rfl⟩)
                                go_ret
                                exact ⟨rfl, (hbel.alloc hsize _)⟩
                              · have hb2 : -(k : Int) ≤ x.b := by omega
                                by_cases hb3 : (l.length : Int) - k < x.b
                                · have hb4 : ¬ x.b ≤ (l.length : Int) - k := by omega
                                  have hG : G = false := by rw [← Hg.out, Hdrop.out, goodTo]; simp [insOk, H.out, hb2, hb4]
                                  subst hG
                                  go_wp2_with (go_at_call 128; refine (register_c _ _).mono ?_; rintro e w' ⟨rfl, rfl⟩)
                                  go_ret
                                  exact ⟨rfl, (hbel.alloc hsize _)⟩
                                · have hb4 : x.b ≤ (l.length : Int) - k := by omega
                                  have HI := Lib.hid (show insOk chars k l.length x = true by simp [insOk, H.out, hb2, hb4, ha, Htz.out, Hc.out])
                                  go_wp2_with (go_at_call 128; refine (register_c _ _).mono ?_; rintro e w' ⟨rfl, rfl⟩)
                                  go_roundw
                                  case rel =>
                                    refine ⟨k + 1, all + x.tree.size, by omega, by go_num, rfl, by omega, .inl hall2, ?_, (hbel.alloc hsize _)⟩
                                    have := Hg.out
                                    rw [Hdrop.out, goodTo, HI.out] at this
                                    simpa [hall2] using this
                                  case measure => simp [intOf]; omega
                            · have hcb : (x.c != 0) = true := by simp [hc]
                              have hG : G = false := by rw [← Hg.out, Hdrop.out, goodTo]; simp [insOk, H.out, hc]
                              subst hG
                              go_wp2_with (go_at_call 128; refine (register_c _ _).mono ?_; rintro e w' ⟨rfl, rfl⟩)
                              go_ret
                              exact ⟨rfl, (hbel.alloc hsize _)⟩
                          · have htz : ¬ x.tree.size = 0 := fun e => ht (toList_of_size e)
                            have Htz := Lib.hid htz
                            clear htz
                            have hG : G = false := by rw [← Hg.out, Hdrop.out, goodTo]; simp [insOk, H.out, Htz.out]
                            subst hG
                            go_wp2_with (go_at_call 128; refine (register_c _ _).mono ?_; rintro e w' ⟨rfl, rfl⟩)
                            go_ret
                            exact ⟨rfl, (hbel.alloc hsize _)⟩
                        · have n5 := h
                          clear h
                          have o0 : (x.op == 0) = false := by simp [n0]
                          have o1 : (x.op == 1) = false := by simp [n1]
                          have o2 : (x.op == 2) = false := by simp [n2]
                          have o3 : (x.op == 3) = false := by simp [n3]
                          have o4 : (x.op == 4) = false := by simp [n4]
                          have o5 : (x.op == 5) = false := by simp [n5]
                          have p0 : (x.op != 0) = true := by simp [n0]
                          have p2 : (x.op != 2) = true := by simp [n2]
                          have H := Lib.hid (And.intro n0 (And.intro n1 (And.intro n2 (And.intro n3 (And.intro n4 n5)))))
                          clear n0 n1 n2 n3 n4 n5
                          by_cases ht : x.tree.toList = []
                          · by_cases hc : x.c = 0
                            · have hcb : (x.c != 0) = false := by simp [hc]
                              have Hc := Lib.hid hc
                              clear hc
                              have hG : G = false := by rw [← Hg.out, Hdrop.out, goodTo]; simp [insOk, H.out.1, H.out.2.1, H.out.2.2.1, H.out.2.2.2.1, H.out.2.2.2.2.1, H.out.2.2.2.2.2]
                              subst hG
                              go_wp2_with (go_at_call 128; refine (register_c _ _).mono ?_; rintro e w' ⟨rfl, rfl⟩)
                              go_ret
                              exact ⟨rfl, (hbel.alloc hsize _)⟩
                            · have hcb : (x.c != 0) = true := by simp [hc]
                              have hG : G = false := by rw [← Hg.out, Hdrop.out, goodTo]; simp [insOk, H.out.1, H.out.2.1, H.out.2.2.1, H.out.2.2.2.1, H.out.2.2.2.2.1, H.out.2.2.2.2.2]
                              subst hG
                              go_wp2_with (go_at_call 128; refine (register_c _ _).mono ?_; rintro e w' ⟨rfl, rfl⟩)
                              go_ret
                              exact ⟨rfl, (hbel.alloc hsize _)⟩
                          · have hG : G = false := by rw [← Hg.out, Hdrop.out, goodTo]; simp [insOk, H.out.1, H.out.2.1, H.out.2.2.1, H.out.2.2.2.1, H.out.2.2.2.2.1, H.out.2.2.2.2.2]
                            subst hG
                            go_wp2_with (go_at_call 128; refine (register_c _ _).mono ?_; rintro e w' ⟨rfl, rfl⟩)
                            go_ret
                            exact ⟨rfl, (hbel.alloc hsize _)⟩
      · have hG : G = true := by
          have := Hg.out
          rw [List.drop_of_length_le (by omega)] at this
          exact this.symm
        subst hG
        clear hp
        go_wp2_with fail
        go_ret
        exact ⟨rfl, hbel⟩

end Go.Proofs.Ythmnbciefpkpmaa
