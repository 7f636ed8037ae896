/- The walk of code.Decode. -/
import Derived.Test.YthmnbciefpkpmaaFields
import Derived.Test.YthmnbciefpkpmaaItems
import Derived.Test.YthmnbciefpkpmaaPads
namespace Go.Proofs.Ythmnbciefpkpmaa
open Go.RowKit

set_option maxRecDepth 100000 in
theorem run_field1 (v1 v2 : Value) (w : World) : (Instr.field 145 (.agg #[v1, v2]) 1).run Try.prog w = .ok v2 w := by kernel_rfl

/-- the function that reads the field of an operation -/
def getF (n : Nat) : Nat := if n = 0 then 151 else if n = 2 then 153 else if n = 5 then 155 else 191

theorem fieldsV_get (n : Nat) : ∃ v, fieldsV n = .agg #[v, .func (.func (getF n)) #[] #[]] := by
  unfold fieldsV getF
  split
  · exact ⟨_, rfl⟩
  · split
    · exact ⟨_, rfl⟩
    · split
      · exact ⟨_, rfl⟩
      · exact ⟨_, rfl⟩

theorem getF_or (n : Nat) : getF n = 151 ∨ getF n = 153 ∨ getF n = 155 ∨ getF n = 191 := by
  unfold getF
  split
  · exact Or.inl rfl
  · split
    · exact Or.inr (Or.inl rfl)
    · split
      · exact Or.inr (Or.inr (Or.inl rfl))
      · exact Or.inr (Or.inr (Or.inr rfl))

theorem get_any (n g : Nat) (o : Option T) (w : World) (hx : InsBlk w g ⟨n, 0, 0, 0, ⟨#[]⟩⟩) (ho : osz o ≤ 2000000) :
    Calls Try.prog (getF n) #[.pointer (some ⟨g, 0, none⟩), .string (sOf o)] w (GetPost g w (getI n o).1 (getI n o).2) := by
  unfold getF getI
  by_cases h0 : n = 0
  · subst h0
    rw [if_pos rfl, if_pos rfl]
    exact get_set_c g 0 o w hx ho
  · rw [if_neg h0, if_neg h0]
    by_cases h2 : n = 2
    · subst h2
      rw [if_pos rfl, if_pos rfl]
      exact get_cons_c g 2 o w hx ho
    · rw [if_neg h2, if_neg h2]
      by_cases h5 : n = 5
      · subst h5
        rw [if_pos rfl, if_pos rfl]
        exact get_jump_c g 5 o w hx ho
      · rw [if_neg h5, if_neg h5]
        exact get_regs_c g n o w hx ho

theorem decL_step (t : T) (r : List T) (l : List Ins) (D : Option (List Ins)) (h : (match decL (t :: r) with | none => none | some q => some (l ++ q)) = D) :
    (decI t = none ∧ D = none) ∨ ∃ x, decI t = some x ∧ (match decL r with | none => none | some q => some (l ++ [x] ++ q)) = D := by
  simp only [decL] at h
  cases hd : decI t with
  | none => rw [hd] at h; exact Or.inl ⟨rfl, h.symm⟩
  | some x =>
    refine Or.inr ⟨x, rfl, ?_⟩
    rw [hd] at h
    simp only at h
    cases hr : decL r with
    | none => rw [hr] at h; exact h
    | some q => rw [hr] at h; simpa using h

theorem decI_size {t : T} {x : Ins} (h : decI t = some x) : x.tree.size ≤ t.size := by
  have hb := osz_prB (o := prB (some t)) (Nat.le_refl _)
  have hb2 := osz_prB (o := some t) (Nat.le_refl _)
  have hz : ∀ o : Option T, (sOf o).size = osz o := sOf_size
  have e0 : (⟨#[]⟩ : ByteArray).size = 0 := rfl
  unfold decI at h
  split at h
  · simp only [Option.some.injEq] at h
    subst h
    unfold getI
    split
    · simp only [getSet]
      rw [hz]
      simp only [osz] at hb hb2 ⊢
      omega
    · split
      · simp only [getCons]; omega
      · split
        · simp only [getJump]; omega
        · simp only [getRegs]; omega
  · cases h

theorem item_size : ∀ (t u : T), u ∈ t.items → u.size ≤ t.size
  | .nil, u, h => by simp [T.items] at h
  | .node a b, u, h => by
    simp only [T.items, List.mem_cons] at h
    simp only [T.size]
    rcases h with rfl | h
    · omega
    · have := item_size b u h
      omega

theorem rowKeepB {w w' : World} {G B e s n : Nat} {v : Value} {xs : List Value} (h : w.ownsRow B e s v n xs) (hb : Below G w w') (hG : ∀ k, v.ownBlock = some k → k < G) : w'.ownsRow B e s v n xs := by
  refine ⟨h.1, ?_⟩
  rcases h.2 with h0 | ⟨g, cap', cur, hv, hB, hh, r⟩
  · exact .inl h0
  · subst hv
    exact .inr ⟨g, cap', cur, rfl, hB, by rw [hb.block g (hG g rfl)]; exact hh, r⟩

theorem drop_t (l : List T) (k : Nat) (h : k < l.length) : l.drop k = l.getD k .nil :: l.drop (k + 1) := by
  rw [List.drop_eq_getElem_cons h]; simp [h]

theorem getD_t (l : List T) (k : Nat) (h : k < l.length) : l.getD k .nil ∈ l := by simp [h]

theorem StrsAt.cell {w : World} {B cap : Nat} {ao : Option Addr} {ts : List T} (h : StrsAt w B ao cap ts) (k : Nat) (hk : k < ts.length) :
    ∃ g, ao = some ⟨g, 0, none⟩ ∧ g < w.heap.size ∧ w.cell? ⟨g, k, none⟩ = some (.string (strB (enc (ts.getD k .nil)))) := by
  have h' := h
  rcases h'.2 with ⟨_, h1⟩ | ⟨g, cap', cur, hv, hB, hh, _⟩
  · omega
  · simp only [Value.slice.injEq] at hv
    obtain ⟨rfl, _, rfl⟩ := hv
    refine ⟨g, rfl, lt_of_block hh, ?_⟩
    have c := h.cellAt k (by omega)
    rw [c]
    simp [hk]

theorem decI_eq (t : T) : decI t = if prIs (some t) && (numB (prA (some t)) && (decide (numV (prA (some t)) < 6) && (getI (numV (prA (some t))) (prB (some t))).2)) then some (getI (numV (prA (some t))) (prB (some t))).1 else none := rfl

/-- what Decode does with a tree -/
def DecPost (w : World) (r : Option (List Ins)) (e : Ending) (w' : World) : Prop :=
  (match r with
    | some l => ∃ ao cap, e = .returned (.tuple #[.slice ao l.length cap, .int .i64 0]) ∧ OwnProg w' w.heap.size ao cap l ∧ (∀ x ∈ l, x.tree.size ≤ 2000000)
    | none => e = .returned (.tuple #[.slice none 0 0, .int .i64 4])) ∧ Below w.heap.size w w'

set_option maxRecDepth 100000 in
set_option maxHeartbeats 4000000 in
theorem decode_c (t : T) (w : World) (ht : t.size ≤ 2000000) : Calls Try.prog 58 #[.string (strB (enc t))] w (DecPost w (decP t)) := by
  have hit := items_c t w ht
  have hsz : ∀ u ∈ t.items, u.size ≤ 2000000 := fun u hu => Nat.le_trans (item_size t u hu) ht
  have hln : t.items.length ≤ 2000000 := by have := spine_size t; rw [items_len]; omega
  unfold decP
  unfold ItemsPost at hit
  generalize t.items = its at *
  generalize strB (enc t) = s at *
  have Hit := Lib.hid hit
  clear hit ht
  by_cases hbig : 4000 < its.length
  · rw [if_pos hbig]
    go_enter Try.func58, Try.ntmps58
    go_wp2_with fail
    refine Hit.out.mono ?_
    rintro e w1 ⟨⟨ao, cap, rfl, _⟩, hb⟩
    go_wp2_with fail
    go_ret2
    exact ⟨rfl, hb⟩
  · rw [if_neg hbig]
    have hsm : (its.length : Int) ≤ 4000 := by omega
    clear hbig
    generalize hR : decL its = D at *
    have hR0 : (match decL (its.drop 0) with | none => none | some q => some (([] : List Ins) ++ q)) = D := by
      rw [List.drop_zero, hR]
      cases D <;> rfl
    have HR := Lib.hid hR0
    have Hsz := Lib.hid hsz
    clear hR hR0 hsz
    obtain ⟨i0, hi, hz0, hz1, hz2⟩ := info_parts Try.info57
    go_enter Try.func58, Try.ntmps58
    go_wp2_with fail
    refine Hit.out.mono ?_
    rintro e w1 ⟨⟨aoi, capi, rfl, hst⟩, hb⟩
    have hB1 := hb.size
    clear Hit
    go_wp2_with fail
    go_loopw [6, 28] (fun p i wr => ∃ (k : Nat) (l : List Ins) (ao : Option Addr) (cap : Nat), p = .slice ao l.length cap ∧ i = .int .i64 k ∧ k ≤ its.length ∧ l.length = k ∧ OwnProg wr w.heap.size ao cap l ∧ (∀ x ∈ l, x.tree.size ≤ 2000000) ∧ StrsAt wr w.heap.size aoi capi its ∧ Below w.heap.size w wr ∧ w.heap.size ≤ wr.heap.size ∧ (match decL (its.drop k) with | none => none | some q => some (l ++ q)) = D) (fun _ i _ => its.length - (intOf i).toNat)
    case atStart => exact ⟨0, [], none, 0, rfl, rfl, Nat.zero_le _, rfl, World.ownsRow_nil _ _ _ _, by simp, hst, hb, hB1, HR.out⟩
    case round =>
      obtain ⟨k, l, ao, cap, rfl, rfl, hk, rfl, hown, hxs, hst2, hbel, hBw, hD⟩ := hrel
      clear hst hb hB1
      by_cases hlt : l.length < its.length
      · obtain ⟨gi, rfl, hgi, c0⟩ := hst2.cell l.length hlt
        have hu := Hsz.out _ (getD_t its l.length hlt)
        have hdrop := drop_t its l.length hlt
        rw [hdrop] at hD
        generalize its.getD l.length .nil = u at *
        have i1 : (0 : Int) ≤ (l.length : Int) := by omega
        have i2 : (l.length : Int) < (its.length : Int) := by omega
        have hp := fun w => cpair_c (some u) w hu
        have hv := fun w => value_c (prA (some u)) w (osz_prA (o := some u) hu)
        have hg := fun (g : Nat) w hx => get_any (numV (prA (some u))) g (prB (some u)) w hx (osz_prB (o := some u) hu)
        have hnb : numV (prA (some u)) ≤ 2000000 := Nat.le_trans (numV_le _) (osz_prA (o := some u) hu)
        have hds := decL_step _ _ _ _ hD
        have hxu : ∀ x, decI u = some x → x.tree.size ≤ 2000000 := fun x hx => Nat.le_trans (decI_size hx) hu
        have hdec := decI_eq u
        clear hD hdrop
        have hso : sOf (some u) = strB (enc u) := rfl
        simp only [hso] at hp
        clear hso
        generalize strB (enc u) = su at *
        generalize numV (prA (some u)) = n at *
        generalize numB (prA (some u)) = ba at *
        generalize sOf (prA (some u)) = sa at *
        generalize sOf (prB (some u)) = sb at *
        generalize prIs (some u) = bi at *
        generalize (getI n (prB (some u))) = gx at *
        have Hp := Lib.hid hp
        have Hv := Lib.hid hv
        have Hg := Lib.hid hg
        have Hd := Lib.hid (And.intro hdec (And.intro hds hxu))
        clear hp hv hg hdec hds hxu
        go_wp2_with fail
        refine (Hp.out _).mono ?_
        rintro e w2 ⟨rfl, hb2⟩
        go_wp2_with fail
        refine (Hv.out _).mono ?_
        rintro e w3 ⟨rfl, hb3⟩
        have hbel3 := hbel.trans ((hb2.mono hBw).trans (hb3.mono (Nat.le_trans hBw hb2.size)))
        have hB3 : w.heap.size ≤ w3.heap.size := Nat.le_trans hBw (Nat.le_trans hb2.size hb3.size)
        have hown3 := rowKeep (rowKeep hown (KeepTy.below hb2)) (KeepTy.below hb3)
        have hst3 := rowKeep (rowKeep hst2 (KeepTy.below hb2)) (KeepTy.below hb3)
        clear hown hst2 hbel hb2 hb3
        have hx4 : InsBlk (w3.alloc (.cells #[.int .i64 n, .int .i64 0, .int .i64 0, .int .i64 0, .string ⟨#[]⟩] 57 (0, 0))) w3.heap.size ⟨n, 0, 0, 0, ⟨#[]⟩⟩ := heap_alloc_new _ _
        have hbel4 := hbel3.alloc hB3 (.cells #[.int .i64 n, .int .i64 0, .int .i64 0, .int .i64 0, .string ⟨#[]⟩] 57 (0, 0))
        cases bi with
        | false =>
          obtain ⟨hdec, hds, _⟩ := Hd.out
          have hD : D = none := by
            rcases hds with ⟨_, h⟩ | ⟨x, h, _⟩
            · exact h
            · rw [hdec] at h; simp at h
          subst hD
          clear hdec hds
          go_wp2_with fail
          go_ret2
          exact ⟨rfl, hbel4⟩
        | true =>
          cases ba with
          | false =>
            obtain ⟨hdec, hds, _⟩ := Hd.out
            have hD : D = none := by
              rcases hds with ⟨_, h⟩ | ⟨x, h, _⟩
              · exact h
              · rw [hdec] at h; simp at h
            subst hD
            clear hdec hds
            go_wp2_with fail
            go_ret2
            exact ⟨rfl, hbel4⟩
          | true =>
            by_cases hn6 : n < 6
            · have hn6i : (n : Int) < 6 := by omega
              obtain ⟨fv, hfv⟩ := fieldsV_get n
              have hf := fun w => fields_c n w
              rw [hfv] at hf
              have hF := getF_or n
              generalize getF n = F at *
              have Hf := Lib.hid hf
              clear hf hfv
              go_wp2_with fail
              have hs4 : w3.heap.size < (w3.alloc (.cells #[.int .i64 n, .int .i64 0, .int .i64 0, .int .i64 0, .string ⟨#[]⟩] 57 (0, 0))).heap.size := by simp
              have hown4 := rowKeep hown3 (KeepTy.alloc _ w3 (.cells #[.int .i64 n, .int .i64 0, .int .i64 0, .int .i64 0, .string ⟨#[]⟩] 57 (0, 0)))
              have hst4 := rowKeep hst3 (KeepTy.alloc _ w3 (.cells #[.int .i64 n, .int .i64 0, .int .i64 0, .int .i64 0, .string ⟨#[]⟩] 57 (0, 0)))
              have hlo := fun k hk => (hown3.lt k hk).2
              have hls := fun k hk => (hst3.lt k hk).2
              clear hown3 hst3 hbel3
              generalize w3.alloc (.cells #[.int .i64 n, .int .i64 0, .int .i64 0, .int .i64 0, .string ⟨#[]⟩] 57 (0, 0)) = w4 at *
              generalize w3.heap.size = G at *
              refine (Hf.out _).mono ?_
              rintro e w5 ⟨rfl, hb5⟩
              have hx5 := hx4.below hb5 hs4
              have hown5 := rowKeep hown4 (KeepTy.below hb5)
              have hst5 := rowKeep hst4 (KeepTy.below hb5)
              have hB4 : w.heap.size ≤ w4.heap.size := by omega
              have hbel5 := hbel4.trans (hb5.mono hB4)
              have hs5 := Nat.lt_of_lt_of_le hs4 hb5.size
              clear hown4 hst4 hbel4 hx4 hb5 hs4 Hf
              have hfd := fun v1 v2 w => run_field1 v1 v2 w
              have HF := Lib.hid hxs
              clear hxs
              rcases hF with rfl | rfl | rfl | rfl
              all_goals (
                go_wp2_with fail
                refine (Hg.out _ _ hx5).mono ?_
                rintro e w6 ⟨rfl, hx6, hb6⟩
                obtain ⟨hdec, hds, hxu⟩ := Hd.out
                rw [decide_eq_true hn6] at hdec
                simp only [Bool.true_and] at hdec
                obtain ⟨gi1, gi2⟩ := gx
                cases gi2 with
                | false =>
                  have hD : D = none := by
                    rcases hds with ⟨_, h⟩ | ⟨x, h, _⟩
                    · exact h
                    · rw [hdec] at h; simp at h
                  subst hD
                  have Hb := Lib.hid (hbel5.trans (hb6.mono (by omega)))
                  clear hdec hds hxu hbel5 hb6 hx6 hx5
                  go_wp2_with fail
                  go_ret2
                  exact ⟨rfl, Hb.out⟩
                | true =>
                  have hdx : decI u = some gi1 := by rw [hdec]; rfl
                  have hxs2 := hxu gi1 hdx
                  have hD2 : (match decL (its.drop (l.length + 1)) with | none => none | some q => some (l ++ [gi1] ++ q)) = D := by
                    rcases hds with ⟨h, _⟩ | ⟨x, h, h2⟩
                    · rw [hdx] at h; cases h
                    · rw [hdx] at h
                      simp only [Option.some.injEq] at h
                      subst h
                      exact h2
                  have hgw : w5.heap.size ≤ w6.heap.size := hb6.size
                  have hown6 := rowKeepB hown5 hb6 hlo
                  have hst6 := rowKeepB hst5 hb6 hls
                  have hbel6 := hbel5.trans (hb6.mono (by omega))
                  obtain ⟨c0', c1, c2, c3, c4⟩ := hx6.cells
                  have Hst := Lib.hid (And.intro hD2 (And.intro hxs2 (And.intro hst6 hbel6)))
                  have hll : l.length ≤ 4000 := by omega
                  clear hdec hds hxu hbel5 hb6 hx5 hdx hxs2 hD2 hst5 hst6 hbel6 hown5 hx6 Hg Hd Hp Hv
                  go_wp2_with (at_builtin; refine wpList_append_lies _ rfl _ _ 43 rfl w.heap.size 57 i0 _ 5 48 Try.underlying43 hi hz0 hz1 hz2 rfl (by decide) (.slice ao l.length cap) l.length (l.flatMap Ins.cells) rfl (hown6.alloc _) ⟨w6.heap.size, 0, none⟩ 1 1 gi1.cells rfl rfl (World.news_of_block (heap_alloc_new _ _)) (by simp [Ins.cells, Value.oneCell']) (by decide) (by unfold maxLen; omega) (by omega) (by simp; omega) (w6.heap.size + 1) (by simp) ?_)
                  intro g2 cap2 w7 hown7 hgrow hat hlt2
                  obtain ⟨hD2, hxs2, hst6, hbel6⟩ := Hst.out
                  have hB6 : w.heap.size ≤ w6.heap.size := by omega
                  have hst7 : StrsAt w7 w.heap.size (some ⟨gi, 0, none⟩) capi its := rowKeep (World.ownsRow.alloc hst6 _) (KeepTy.grown (by decide) (World.ownsRow.alloc hown6 (.cells #[.int .i64 gi1.op, .int .i64 gi1.a, .int .i64 gi1.b, .int .i64 gi1.c, .string gi1.tree] 57 (0, 0))) hgrow)
                  have hbel7 := (hbel6.alloc hB6 (.cells #[.int .i64 gi1.op, .int .i64 gi1.a, .int .i64 gi1.b, .int .i64 gi1.c, .string gi1.tree] 57 (0, 0))).grown hgrow (by simp; omega) (fun k hk => (hown6.lt k hk).1)
                  have hown8 : OwnProg w7 w.heap.size (some ⟨g2, 0, none⟩) cap2 (l ++ [gi1]) := by
                    unfold OwnProg
                    rw [List.length_append, List.flatMap_append]
                    simpa using hown7
                  have hsz7 : w.heap.size ≤ w7.heap.size := hbel7.size
                  have hxs8 : ∀ x ∈ l ++ [gi1], x.tree.size ≤ 2000000 := by
                    intro x hx
                    rcases List.mem_append.1 hx with hx | hx
                    · exact HF.out x hx
                    · simp only [List.mem_singleton] at hx; subst hx; exact hxs2
                  have HA := Lib.hid (And.intro hst7 (And.intro hbel7 (And.intro hown8 (And.intro hsz7 (And.intro hxs8 hD2)))))
                  clear hst7 hbel7 hown8 hsz7 hxs8 hD2 hst6 hbel6 hxs2 hown6 hown7 hgrow hat hlt2 Hst HF
                  go_wp2_with fail
                  go_roundw
                  case rel => exact ⟨l.length + 1, l ++ [gi1], some ⟨g2, 0, none⟩, cap2, by simp, by go_num, by omega, by simp, HA.out.2.2.1, HA.out.2.2.2.2.1, HA.out.1, HA.out.2.1, HA.out.2.2.2.1, HA.out.2.2.2.2.2⟩
                  case measure => simp [intOf] <;> omega)
            · obtain ⟨hdec, hds, _⟩ := Hd.out
              have hD : D = none := by
                rcases hds with ⟨_, h⟩ | ⟨x, h, _⟩
                · exact h
                · rw [hdec] at h; simp [hn6] at h
              subst hD
              have hn6i : (6 : Int) ≤ (n : Int) := by omega
              clear hdec hds hn6
              go_wp2_with fail
              go_ret2
              exact ⟨rfl, hbel4⟩
      · have hkk : l.length = its.length := by omega
        rw [hkk, List.drop_length] at hD
        simp only [decL, List.append_nil] at hD
        have hll : (l.length : Int) ≤ 4000 := by omega
        have hnlt : ¬ (l.length < its.length) := hlt
        obtain ⟨b, hpi, _⟩ := hown.progIn (fun x hx => Nat.le_trans (hxs x hx) (by decide))
        have hcv := cvalid_c ao b 0 cap l wr hpi (by omega)
        have HD := Lib.hid (And.intro hD hkk)
        have HH := Lib.hid (And.intro hown hxs)
        subst hD
        cases hg : goodP 4000 2000000 l with
        | false =>
          rw [hg] at hcv
          have Hcv := Lib.hid hcv
          have Hgd := Lib.hid hg
          clear hcv hkk hown hxs hpi hst2 hg
          go_wp2_with fail
          refine Hcv.out.mono ?_
          rintro e w2 ⟨rfl, hb2⟩
          go_wp2_with fail
          go_ret2
          show DecPost w (okP l) _ _
          unfold okP
          rw [Hgd.out]
          exact ⟨rfl, hbel.trans (hb2.mono hBw)⟩
        | true =>
          rw [hg] at hcv
          have Hcv := Lib.hid hcv
          have Hgd := Lib.hid hg
          clear hcv hkk hown hxs hpi hst2 hg
          go_wp2_with fail
          refine Hcv.out.mono ?_
          rintro e w2 ⟨rfl, hb2⟩
          go_wp2_with fail
          go_ret2
          show DecPost w (okP l) _ _
          unfold okP
          rw [Hgd.out]
          exact ⟨⟨ao, cap, rfl, rowKeep HH.out.1 (KeepTy.below hb2), HH.out.2⟩, hbel.trans (hb2.mono hBw)⟩

end Go.Proofs.Ythmnbciefpkpmaa
