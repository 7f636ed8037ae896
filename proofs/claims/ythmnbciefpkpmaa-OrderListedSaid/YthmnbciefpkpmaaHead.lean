/- What the closed facts of the rows want of the header of the translation, reckoned word by word. -/
import Derived.Test.YthmnbciefpkpmaaArgs
import Derived.JoinedOf
namespace Go.Proofs.Ythmnbciefpkpmaa

set_option maxRecDepth 100000 in
def headSigns : List Char := List.map Char.ofNat [104, 97, 114, 110, 101, 115, 115, 32, 54, 51, 51, 97, 54, 50, 101, 50, 98, 49, 56, 97, 102, 55, 102, 102, 56, 57, 52, 54, 102, 53, 99, 99, 55, 50, 57, 50, 102, 101, 101, 54, 54, 49, 57, 51, 56, 53, 50, 54, 56, 99, 101, 51, 101, 50, 98, 48, 100, 53, 98, 97, 55, 55, 49, 99, 99, 57, 48, 102, 98, 56, 53, 100, 32, 99, 117, 116, 32, 97, 116, 32, 110, 97, 114, 99, 105, 115, 115, 117, 115, 47, 110, 97, 114, 99, 105, 115, 115, 117, 115, 108, 97, 119, 49, 48, 46, 79, 114, 100, 101, 114, 82, 97, 110, 107, 115, 32, 110, 97, 114, 99, 105, 115, 115, 117, 115, 47, 110, 97, 114, 99, 105, 115, 115, 117, 115, 108, 97, 119, 49, 48, 46, 79, 114, 100, 101, 114, 85, 110, 114, 97, 110, 107, 115, 32, 110, 97, 114, 99, 105, 115, 115, 117, 115, 47, 110, 97, 114, 99, 105, 115, 115, 117, 115, 108, 97, 119, 49, 48, 46, 79, 114, 100, 101, 114, 76, 105, 115, 116, 115, 32, 110, 97, 114, 99, 105, 115, 115, 117, 115, 47, 110, 97, 114, 99, 105, 115, 115, 117, 115, 108, 97, 119, 49, 48, 46, 79, 114, 100, 101, 114, 66, 97, 99, 107, 32, 110, 97, 114, 99, 105, 115, 115, 117, 115, 47, 110, 97, 114, 99, 105, 115, 115, 117, 115, 108, 97, 119, 49, 48, 46, 79, 114, 100, 101, 114, 65, 102, 116, 101, 114, 32, 110, 97, 114, 99, 105, 115, 115, 117, 115, 47, 110, 97, 114, 99, 105, 115, 115, 117, 115, 108, 97, 119, 49, 48, 46, 79, 114, 100, 101, 114, 76, 105, 115, 116, 101, 100, 32, 110, 97, 114, 99, 105, 115, 115, 117, 115, 47, 110, 97, 114, 99, 105, 115, 115, 117, 115, 108, 97, 119, 49, 48, 46, 79, 114, 100, 101, 114, 67, 111, 117, 110, 116, 115, 32, 110, 97, 114, 99, 105, 115, 115, 117, 115, 47, 110, 97, 114, 99, 105, 115, 115, 117, 115, 108, 97, 119, 49, 48, 46, 79, 114, 100, 101, 114, 83, 117, 109, 115, 32, 110, 97, 114, 99, 105, 115, 115, 117, 115, 47, 110, 97, 114, 99, 105, 115, 115, 117, 115, 108, 97, 119, 49, 48, 46, 79, 114, 100, 101, 114, 78, 117, 109, 98, 101, 114, 115, 32, 110, 97, 114, 99, 105, 115, 115, 117, 115, 47, 110, 97, 114, 99, 105, 115, 115, 117, 115, 108, 97, 119, 49, 48, 46, 79, 114, 100, 101, 114, 80, 97, 100, 115, 32, 110, 97, 114, 99, 105, 115, 115, 117, 115, 47, 110, 97, 114, 99, 105, 115, 115, 117, 115, 108, 97, 119, 49, 48, 46, 79, 114, 100, 101, 114, 80, 97, 100, 100, 101, 100, 32, 110, 97, 114, 99, 105, 115, 115, 117, 115, 47, 110, 97, 114, 99, 105, 115, 115, 117, 115, 108, 97, 119, 48, 53, 46, 83, 112, 101, 99, 77, 101, 116, 97, 32, 110, 97, 114, 99, 105, 115, 115, 117, 115, 47, 110, 97, 114, 99, 105, 115, 115, 117, 115, 108, 97, 119, 48, 53, 46, 83, 112, 101, 99, 65, 103, 97, 105, 110, 32, 110, 97, 114, 99, 105, 115, 115, 117, 115, 47, 110, 97, 114, 99, 105, 115, 115, 117, 115, 108, 97, 119, 48, 53, 46, 83, 112, 101, 99, 70, 111, 117, 110, 100, 32, 110, 97, 114, 99, 105, 115, 115, 117, 115, 47, 110, 97, 114, 99, 105, 115, 115, 117, 115, 108, 97, 119, 48, 57, 46, 68, 101, 102, 101, 97, 116, 83, 97, 121, 115, 32, 110, 97, 114, 99, 105, 115, 115, 117, 115, 47, 110, 97, 114, 99, 105, 115, 115, 117, 115, 108, 97, 119, 48, 57, 46, 68, 101, 102, 101, 97, 116, 87, 114, 111, 110, 103, 32, 110, 97, 114, 99, 105, 115, 115, 117, 115, 47, 110, 97, 114, 99, 105, 115, 115, 117, 115, 116, 111, 112, 46, 84, 111, 112, 77, 97, 110, 121, 32, 110, 97, 114, 99, 105, 115, 115, 117, 115, 47, 110, 97, 114, 99, 105, 115, 115, 117, 115, 116, 111, 112, 46, 84, 111, 112, 83, 112, 101, 99, 32, 110, 97, 114, 99, 105, 115, 115, 117, 115, 47, 110, 97, 114, 99, 105, 115, 115, 117, 115, 116, 111, 112, 46, 84, 111, 112, 75, 110, 111, 119, 32, 110, 97, 114, 99, 105, 115, 115, 117, 115, 47, 110, 97, 114, 99, 105, 115, 115, 117, 115, 116, 111, 112, 46, 84, 111, 112, 76, 105, 97, 114, 32, 110, 97, 114, 99, 105, 115, 115, 117, 115, 47, 110, 97, 114, 99, 105, 115, 115, 117, 115, 116, 111, 112, 46, 84, 111, 112, 68, 101, 102, 101, 97, 116, 32, 110, 97, 114, 99, 105, 115, 115, 117, 115, 47, 110, 97, 114, 99, 105, 115, 115, 117, 115, 116, 111, 112, 46, 84, 111, 112, 70, 105, 120]

set_option maxRecDepth 100000 in
def headWords : List (List Char) := List.map (List.map Char.ofNat) [[104, 97, 114, 110, 101, 115, 115],
  [54, 51, 51, 97, 54, 50, 101, 50, 98, 49, 56, 97, 102, 55, 102, 102, 56, 57, 52, 54, 102, 53, 99, 99, 55, 50, 57, 50, 102, 101, 101, 54, 54, 49, 57, 51, 56, 53, 50, 54, 56, 99, 101, 51, 101, 50, 98, 48, 100, 53, 98, 97, 55, 55, 49, 99, 99, 57, 48, 102, 98, 56, 53, 100],
  [99, 117, 116],
  [97, 116],
  [110, 97, 114, 99, 105, 115, 115, 117, 115, 47, 110, 97, 114, 99, 105, 115, 115, 117, 115, 108, 97, 119, 49, 48, 46, 79, 114, 100, 101, 114, 82, 97, 110, 107, 115],
  [110, 97, 114, 99, 105, 115, 115, 117, 115, 47, 110, 97, 114, 99, 105, 115, 115, 117, 115, 108, 97, 119, 49, 48, 46, 79, 114, 100, 101, 114, 85, 110, 114, 97, 110, 107, 115],
  [110, 97, 114, 99, 105, 115, 115, 117, 115, 47, 110, 97, 114, 99, 105, 115, 115, 117, 115, 108, 97, 119, 49, 48, 46, 79, 114, 100, 101, 114, 76, 105, 115, 116, 115],
  [110, 97, 114, 99, 105, 115, 115, 117, 115, 47, 110, 97, 114, 99, 105, 115, 115, 117, 115, 108, 97, 119, 49, 48, 46, 79, 114, 100, 101, 114, 66, 97, 99, 107],
  [110, 97, 114, 99, 105, 115, 115, 117, 115, 47, 110, 97, 114, 99, 105, 115, 115, 117, 115, 108, 97, 119, 49, 48, 46, 79, 114, 100, 101, 114, 65, 102, 116, 101, 114],
  [110, 97, 114, 99, 105, 115, 115, 117, 115, 47, 110, 97, 114, 99, 105, 115, 115, 117, 115, 108, 97, 119, 49, 48, 46, 79, 114, 100, 101, 114, 76, 105, 115, 116, 101, 100],
  [110, 97, 114, 99, 105, 115, 115, 117, 115, 47, 110, 97, 114, 99, 105, 115, 115, 117, 115, 108, 97, 119, 49, 48, 46, 79, 114, 100, 101, 114, 67, 111, 117, 110, 116, 115],
  [110, 97, 114, 99, 105, 115, 115, 117, 115, 47, 110, 97, 114, 99, 105, 115, 115, 117, 115, 108, 97, 119, 49, 48, 46, 79, 114, 100, 101, 114, 83, 117, 109, 115],
  [110, 97, 114, 99, 105, 115, 115, 117, 115, 47, 110, 97, 114, 99, 105, 115, 115, 117, 115, 108, 97, 119, 49, 48, 46, 79, 114, 100, 101, 114, 78, 117, 109, 98, 101, 114, 115],
  [110, 97, 114, 99, 105, 115, 115, 117, 115, 47, 110, 97, 114, 99, 105, 115, 115, 117, 115, 108, 97, 119, 49, 48, 46, 79, 114, 100, 101, 114, 80, 97, 100, 115],
  [110, 97, 114, 99, 105, 115, 115, 117, 115, 47, 110, 97, 114, 99, 105, 115, 115, 117, 115, 108, 97, 119, 49, 48, 46, 79, 114, 100, 101, 114, 80, 97, 100, 100, 101, 100],
  [110, 97, 114, 99, 105, 115, 115, 117, 115, 47, 110, 97, 114, 99, 105, 115, 115, 117, 115, 108, 97, 119, 48, 53, 46, 83, 112, 101, 99, 77, 101, 116, 97],
  [110, 97, 114, 99, 105, 115, 115, 117, 115, 47, 110, 97, 114, 99, 105, 115, 115, 117, 115, 108, 97, 119, 48, 53, 46, 83, 112, 101, 99, 65, 103, 97, 105, 110],
  [110, 97, 114, 99, 105, 115, 115, 117, 115, 47, 110, 97, 114, 99, 105, 115, 115, 117, 115, 108, 97, 119, 48, 53, 46, 83, 112, 101, 99, 70, 111, 117, 110, 100],
  [110, 97, 114, 99, 105, 115, 115, 117, 115, 47, 110, 97, 114, 99, 105, 115, 115, 117, 115, 108, 97, 119, 48, 57, 46, 68, 101, 102, 101, 97, 116, 83, 97, 121, 115],
  [110, 97, 114, 99, 105, 115, 115, 117, 115, 47, 110, 97, 114, 99, 105, 115, 115, 117, 115, 108, 97, 119, 48, 57, 46, 68, 101, 102, 101, 97, 116, 87, 114, 111, 110, 103],
  [110, 97, 114, 99, 105, 115, 115, 117, 115, 47, 110, 97, 114, 99, 105, 115, 115, 117, 115, 116, 111, 112, 46, 84, 111, 112, 77, 97, 110, 121],
  [110, 97, 114, 99, 105, 115, 115, 117, 115, 47, 110, 97, 114, 99, 105, 115, 115, 117, 115, 116, 111, 112, 46, 84, 111, 112, 83, 112, 101, 99],
  [110, 97, 114, 99, 105, 115, 115, 117, 115, 47, 110, 97, 114, 99, 105, 115, 115, 117, 115, 116, 111, 112, 46, 84, 111, 112, 75, 110, 111, 119],
  [110, 97, 114, 99, 105, 115, 115, 117, 115, 47, 110, 97, 114, 99, 105, 115, 115, 117, 115, 116, 111, 112, 46, 84, 111, 112, 76, 105, 97, 114],
  [110, 97, 114, 99, 105, 115, 115, 117, 115, 47, 110, 97, 114, 99, 105, 115, 115, 117, 115, 116, 111, 112, 46, 84, 111, 112, 68, 101, 102, 101, 97, 116],
  [110, 97, 114, 99, 105, 115, 115, 117, 115, 47, 110, 97, 114, 99, 105, 115, 115, 117, 115, 116, 111, 112, 46, 84, 111, 112, 70, 105, 120]]

set_option maxRecDepth 100000 in
theorem head_eq : Try.prog.initOrder = String.ofList headSigns := by kernel_rfl

set_option maxRecDepth 100000 in
theorem head_list : Try.prog.initOrder.toList = headSigns := by rw [head_eq, String.toList_ofList]

def addSign (c : Char) (acc : List (List Char)) : List (List Char) := if c.toNat = 32 then [] :: acc else match acc with | w :: ws => (c :: w) :: ws | [] => [[c]]

set_option maxRecDepth 100000 in
theorem words_fold : ∀ l : List Char, wordsSigns l = l.foldr addSign [[]]
  | [] => rfl
  | c :: r => by
    rw [List.foldr_cons, ← words_fold r]
    by_cases h : c = Char.ofNat 32
    · subst h
      rfl
    · have hn : ¬ c.toNat = 32 := fun e => h (by
        have := Char.ofNat_toNat c
        rw [e] at this
        exact this.symm)
      unfold addSign
      rw [if_neg hn]
      rw [wordsSigns]
      · rfl
      · exact h

set_option maxRecDepth 100000 in
theorem head_words : wordsSigns headSigns = headWords := by
  rw [words_fold]
  kernel_rfl

set_option maxRecDepth 100000 in
theorem b1 : behindMainWord headWords = "cut".toList :: headWords.drop 3 := by kernel_rfl

set_option maxRecDepth 100000 in
theorem head_cut : behindMainWord (wordsSigns Try.prog.initOrder.toList) = "cut".toList :: headWords.drop 3 := by rw [head_list, head_words, b1]

set_option maxRecDepth 100000 in
theorem make_cut (P : Program) (rest : List (List Char)) (h : behindMainWord (wordsSigns P.initOrder.toList) = "cut".toList :: rest) : P.make = some .cut := by
  unfold Program.make
  rw [h]
  rfl

set_option maxRecDepth 100000 in
theorem strip_cut (rest : List (List Char)) : stripLifts liftWords ("cut".toList :: rest) = ([], "cut".toList :: rest) := rfl

set_option maxRecDepth 100000 in
theorem lifts_cut (P : Program) (rest : List (List Char)) (h : behindMainWord (wordsSigns P.initOrder.toList) = "cut".toList :: rest) : P.headLifts = [] := by
  unfold Program.headLifts
  rw [h, strip_cut]
  rfl

set_option maxRecDepth 100000 in
theorem final_cut (P : Program) (rest : List (List Char)) (h : behindMainWord (wordsSigns P.initOrder.toList) = "cut".toList :: rest) : P.liftsFinal = false := by
  unfold Program.liftsFinal
  rw [lifts_cut P rest h, h]
  rfl

set_option maxRecDepth 100000 in
theorem enter_cut (P : Program) (rest : List (List Char)) (h : behindMainWord (wordsSigns P.initOrder.toList) = "cut".toList :: rest) (h1 : P.laysLater = false) (h2 : P.bearsReflect = false) (h3 : P.doorFits [] = true) : P.mayEnter = true := by
  unfold Program.mayEnter
  rw [h]
  simp only [strip_cut, h1, h2, h3]
  rfl

set_option maxRecDepth 100000 in
theorem b4 : Try.prog.laysLater = false := by kernel_rfl

set_option maxRecDepth 100000 in
theorem b5 : Try.prog.bearsReflect = false := by kernel_rfl

set_option maxRecDepth 100000 in
theorem b6 : Try.prog.doorFits [] = true := by kernel_rfl

set_option maxRecDepth 100000 in
theorem mayEnter_yes : Try.prog.mayEnter = true := enter_cut _ _ head_cut b4 b5 b6

set_option maxRecDepth 100000 in
theorem make_is : Try.prog.make = some .cut := make_cut _ _ head_cut

set_option maxRecDepth 100000 in
theorem final_no : Try.prog.liftsFinal = false := final_cut _ _ head_cut

/-- the closed facts of a row, one by one -/
theorem facts_of (P : Program) (f : FuncId) (fn : Func) (s : ChangeSpec) (c : OpenClaim)
    (h0 : (c.wf (OpenSpec.ofChange s)) = true)
    (h1 : (laidOutB P) = true)
    (h2 : (mapsRowed P) = true)
    (h3 : (fn.params.all (P.readableRec ·)) = true)
    (h4 : (namedTie P c.named s.vars) = true)
    (h5 : (c.stops == []) = true)
    (h6 : (P.stops == []) = true)
    (h7 : (c.knobs == []) = true)
    (h8 : (P.stopKnobs == []) = true)
    (h9 : (c.inPlace == P.inPlace f) = true)
    (h10 : (c.unfollowed == P.unfollowed f) = true)
    (h11 : (c.recurses == P.recurses f) = true)
    (h12 : (c.named == P.varsNamed f) = true)
    (h13 : (c.maps == (fn.params.toList ++ s.plain.varTypes P).any (P.mapsRec ·)) = true)
    (h14 : (c.ifaces == (fn.params.toList ++ s.plain.varTypes P).any (P.ifacesRec ·)) = true)
    (h15 : (c.mapsOut == P.mapsAmong fn.resultTypes.toList) = true)
    (h16 : (c.loops == (fn.params.toList ++ s.plain.varTypes P).any (P.loopsFrom ·)) = true)
    (h17 : (c.wideKeys == (fn.params.toList ++ s.plain.varTypes P ++ fn.resultTypes.toList).any (P.wideKeysFrom ·)) = true)
    (h18 : (s.vars.all (P.varReadable ·)) = true)
    (h19 : (fn.resultTypes.all (fun t => P.readableRec t && decide (t < P.types.size))) = true)
    (h20 : (c.ifacesOut == fn.resultTypes.toList.any (P.ifacesRec ·)) = true)
    (h21 : (c.loopsOut == fn.resultTypes.toList.any (P.loopsFrom ·)) = true)
    (h22 : (c.plainKeys == P.plainKeys) = true)
    (h23 : (c.shortTexts.isNone) = true)
    (h24 : (P.stopsHeard) = true)
    (h25 : (P.mayEnter) = true)
    (h26 : (c.lifted == P.liftsFinal) = true)
    (h27 : (P.make == some c.make) = true)
    (h28 : (c.kinds == (if c.domain.isEmpty then [] else fn.params.toList.map fun t => match P.underlying t with | some (.int k) => some k | _ => none)) = true)
    (h29 : (c.pinned == c.pinnedBy) = true)
    (h30 : (c.veiled == (fn.params.toList ++ s.plain.varTypes P ++ fn.resultTypes.toList).any (P.veiledRec ·)) = true)
    (h31 : (c.veiledFits P fn.params.toList (fn.params.toList ++ s.plain.varTypes P ++ fn.resultTypes.toList)) = true) : joinedFacts P f fn s c = true := by
  simp only [joinedFacts, Bool.and_eq_true]
  exact ⟨⟨⟨⟨⟨⟨⟨⟨⟨⟨⟨⟨⟨⟨⟨⟨⟨⟨⟨⟨⟨⟨⟨⟨⟨⟨⟨⟨⟨⟨⟨h0, h1⟩, h2⟩, h3⟩, h4⟩, h5⟩, h6⟩, h7⟩, h8⟩, h9⟩, h10⟩, h11⟩, h12⟩, h13⟩, h14⟩, h15⟩, h16⟩, h17⟩, h18⟩, h19⟩, h20⟩, h21⟩, h22⟩, h23⟩, h24⟩, h25⟩, h26⟩, h27⟩, h28⟩, h29⟩, h30⟩, h31⟩

end Go.Proofs.Ythmnbciefpkpmaa
