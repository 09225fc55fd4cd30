/- The book: Apart, of lists of one kind. -/
import Derived.Test.YtabkkeeedlnmnaaDoorBkB5
namespace Go.Proofs.YtabkkeeedlnmnaaDoor
open Go.RowKit Go.Shelf Tk
set_option linter.unusedVariables false
set_option linter.unusedSimpArgs false
namespace BkByte
variable {w w' : World} {K : Nat} {rv : Value} {q : Nat} {V U : Nat → Value} {N : Nat → Nat}
set_option maxRecDepth 100000 in
set_option maxHeartbeats 4000000 in
theorem apart_ok (h : Bk w K rv q V U) (hq : q ≤ 1000) (hN : ∀ i, i < q → N i ≤ 5000) (hV : ∀ i, i < q → ∃ xs, xs.length = N i ∧ Lg w 5 .u8 (V i) xs) (hU : ∀ i, i < q → ∃ A n c, U i = .slice A n c)
    (ap : ∀ i j, i < q → j < q → i ≠ j → Apart (V i) (V j)) (sep : ∀ b, OwnV q V b → ¬ OwnB K rv b) :
    Calls Tryd.prog 14 #[.pointer (some ⟨K, 0, none⟩)] w fun e w' => e = .returned (.bool true) ∧ Fr (fun b => OwnV q V b ∨ rv.ownBlock = some b) w w' := by
  have hf0 := Lib.hid (fill_ok h hq hN hV hU ap sep)
  replace h := Lib.hid h
  replace hN := Lib.hid hN
  replace hU := Lib.hid hU
  replace ap := Lib.hid ap
  replace sep := Lib.hid sep
  clear hV
  go_enter Tryd.func14, Tryd.ntmps14
  go_wp2_with (first
    | (go_at_call 71; refine hf0.out.mono ?_; rintro e w1 ⟨⟨x, rfl⟩, hB1, hL1, hg1⟩; replace hB1 := Lib.hid hB1; replace hL1 := Lib.hid hL1)
    | (go_at_call 72; refine (fillWord_empty K _ (hB1.out.ce (i := 2) (by decide) (by decide) (by decide))).mono ?_; rintro e w7 ⟨⟨x, rfl⟩, rfl⟩)
    | (go_at_call 73; refine (fillInt_empty K _ (hB1.out.ce (i := 3) (by decide) (by decide) (by decide))).mono ?_; rintro e w7 ⟨⟨x, rfl⟩, rfl⟩)
    | (go_at_call 74; refine (fillText_empty K _ (hB1.out.ce (i := 4) (by decide) (by decide) (by decide))).mono ?_; rintro e w7 ⟨⟨x, rfl⟩, rfl⟩)
    | (go_at_call 75; refine (fillInstr_empty K _ (hB1.out.ce (i := 5) (by decide) (by decide) (by decide))).mono ?_; rintro e w7 ⟨⟨x, rfl⟩, rfl⟩)
    | (go_at_call 76; refine (fillAsk_empty K _ (hB1.out.ce (i := 6) (by decide) (by decide) (by decide))).mono ?_; rintro e w7 ⟨⟨x, rfl⟩, rfl⟩)
    | (go_at_call 77; refine (fillTask_empty K _ (hB1.out.ce (i := 7) (by decide) (by decide) (by decide))).mono ?_; rintro e w7 ⟨⟨x, rfl⟩, rfl⟩)
    | (go_at_call 78; refine (fillThing_empty K _ (hB1.out.ce (i := 8) (by decide) (by decide) (by decide))).mono ?_; rintro e w7 ⟨⟨x, rfl⟩, rfl⟩)
    | (go_at_call 79; refine (grow_ok hB1.out hq hN.out hL1.out hU.out ap.out sep.out).mono ?_; rintro e w2 ⟨⟨x, rfl⟩, hG2, hg2⟩; obtain ⟨U2, hR2⟩ := hG2; replace hR2 := Lib.hid hR2)
    | (go_at_call 80; refine (growWord_empty K _ (hR2.out.bk.ce (i := 2) (by decide) (by decide) (by decide))).mono ?_; rintro e w7 ⟨⟨x, rfl⟩, rfl⟩)
    | (go_at_call 81; refine (growInt_empty K _ (hR2.out.bk.ce (i := 3) (by decide) (by decide) (by decide))).mono ?_; rintro e w7 ⟨⟨x, rfl⟩, rfl⟩)
    | (go_at_call 82; refine (growText_empty K _ (hR2.out.bk.ce (i := 4) (by decide) (by decide) (by decide))).mono ?_; rintro e w7 ⟨⟨x, rfl⟩, rfl⟩)
    | (go_at_call 83; refine (growInstr_empty K _ (hR2.out.bk.ce (i := 5) (by decide) (by decide) (by decide))).mono ?_; rintro e w7 ⟨⟨x, rfl⟩, rfl⟩)
    | (go_at_call 84; refine (growAsk_empty K _ (hR2.out.bk.ce (i := 6) (by decide) (by decide) (by decide))).mono ?_; rintro e w7 ⟨⟨x, rfl⟩, rfl⟩)
    | (go_at_call 85; refine (growTask_empty K _ (hR2.out.bk.ce (i := 7) (by decide) (by decide) (by decide))).mono ?_; rintro e w7 ⟨⟨x, rfl⟩, rfl⟩)
    | (go_at_call 86; refine (growThing_empty K _ (hR2.out.bk.ce (i := 8) (by decide) (by decide) (by decide))).mono ?_; rintro e w7 ⟨⟨x, rfl⟩, rfl⟩)
    | (go_at_call 87; refine (look_ok hR2.out hq hN.out).mono ?_; rintro e w3 ⟨rfl, hg3⟩; have hR3 := Lib.hid (hR2.out.keep hg3))
    | (go_at_call 88; refine (lookWord_empty K _ (hR3.out.bk.ce (i := 2) (by decide) (by decide) (by decide))).mono ?_; rintro e w7 ⟨rfl, rfl⟩)
    | (go_at_call 89; refine (lookInt_empty K _ (hR3.out.bk.ce (i := 3) (by decide) (by decide) (by decide))).mono ?_; rintro e w7 ⟨rfl, rfl⟩)
    | (go_at_call 90; refine (lookText_empty K _ (hR3.out.bk.ce (i := 4) (by decide) (by decide) (by decide))).mono ?_; rintro e w7 ⟨rfl, rfl⟩)
    | (go_at_call 91; refine (lookInstr_empty K _ (hR3.out.bk.ce (i := 5) (by decide) (by decide) (by decide))).mono ?_; rintro e w7 ⟨rfl, rfl⟩)
    | (go_at_call 92; refine (lookAsk_empty K _ (hR3.out.bk.ce (i := 6) (by decide) (by decide) (by decide))).mono ?_; rintro e w7 ⟨rfl, rfl⟩)
    | (go_at_call 93; refine (lookTask_empty K _ (hR3.out.bk.ce (i := 7) (by decide) (by decide) (by decide))).mono ?_; rintro e w7 ⟨rfl, rfl⟩)
    | (go_at_call 94; refine (lookThing_empty K _ (hR3.out.bk.ce (i := 8) (by decide) (by decide) (by decide))).mono ?_; rintro e w7 ⟨rfl, rfl⟩))
  go_ret
  exact ⟨rfl, ((hg1.mono (fun _ _ => Or.inl)).trans hg2).trans (Fr.of_grown hg3 (by simp))⟩
end BkByte
end Go.Proofs.YtabkkeeedlnmnaaDoor
