/- The book: Apart, of lists of one kind. -/
import Derived.Test.YtneamjaglgnmkaaGreatDoorBkW5
namespace Go.Proofs.YtneamjaglgnmkaaGreatDoor
open Go.RowKit Go.Shelf Tk
set_option linter.unusedVariables false
set_option linter.unusedSimpArgs false
namespace BkWord
variable {w w' : World} {K : Nat} {rv : Value} {q : Nat} {V U : Nat → Value} {N : Nat → Nat}
set_option maxRecDepth 100000 in
set_option maxHeartbeats 4000000 in
theorem apart_ok (h : Bk w K rv q V U) (hq : q ≤ 1000) (hN : ∀ i, i < q → N i ≤ 5000) (hV : ∀ i, i < q → ∃ xs, xs.length = N i ∧ Lg w 23 .u32 (V i) xs) (hU : ∀ i, i < q → ∃ A n c, U i = .slice A n c)
    (ap : ∀ i j, i < q → j < q → i ≠ j → Apart (V i) (V j)) (sep : ∀ b, OwnV q V b → ¬ OwnB K rv b) :
    Calls Tryz.prog 15 #[.pointer (some ⟨K, 0, none⟩)] w fun e w' => e = .returned (.bool true) ∧ Fr (fun b => OwnV q V b ∨ rv.ownBlock = some b) w w' := by
  have hf0 := Lib.hid (fill_ok h hq hN hV hU ap sep)
  replace h := Lib.hid h
  replace hN := Lib.hid hN
  replace hU := Lib.hid hU
  replace ap := Lib.hid ap
  replace sep := Lib.hid sep
  clear hV
  go_enter Tryz.func15, Tryz.ntmps15
  go_wp2_with (first
    | (go_at_call 28; refine (fillByte_empty K _ (h.out.ce (i := 1) (by decide) (by decide) (by decide))).mono ?_; rintro e w7 ⟨⟨x, rfl⟩, rfl⟩)
    | (go_at_call 29; refine hf0.out.mono ?_; rintro e w1 ⟨⟨x, rfl⟩, hB1, hL1, hg1⟩; replace hB1 := Lib.hid hB1; replace hL1 := Lib.hid hL1)
    | (go_at_call 30; refine (fillInt_empty K _ (hB1.out.ce (i := 3) (by decide) (by decide) (by decide))).mono ?_; rintro e w7 ⟨⟨x, rfl⟩, rfl⟩)
    | (go_at_call 31; refine (fillText_empty K _ (hB1.out.ce (i := 4) (by decide) (by decide) (by decide))).mono ?_; rintro e w7 ⟨⟨x, rfl⟩, rfl⟩)
    | (go_at_call 32; refine (fillInstr_empty K _ (hB1.out.ce (i := 5) (by decide) (by decide) (by decide))).mono ?_; rintro e w7 ⟨⟨x, rfl⟩, rfl⟩)
    | (go_at_call 33; refine (fillAsk_empty K _ (hB1.out.ce (i := 6) (by decide) (by decide) (by decide))).mono ?_; rintro e w7 ⟨⟨x, rfl⟩, rfl⟩)
    | (go_at_call 34; refine (fillTask_empty K _ (hB1.out.ce (i := 7) (by decide) (by decide) (by decide))).mono ?_; rintro e w7 ⟨⟨x, rfl⟩, rfl⟩)
    | (go_at_call 35; refine (fillThing_empty K _ (hB1.out.ce (i := 8) (by decide) (by decide) (by decide))).mono ?_; rintro e w7 ⟨⟨x, rfl⟩, rfl⟩)
    | (go_at_call 36; refine (growByte_empty K _ (hB1.out.ce (i := 1) (by decide) (by decide) (by decide))).mono ?_; rintro e w7 ⟨⟨x, rfl⟩, rfl⟩)
    | (go_at_call 37; refine (grow_ok hB1.out hq hN.out hL1.out hU.out ap.out sep.out).mono ?_; rintro e w2 ⟨⟨x, rfl⟩, hG2, hg2⟩; obtain ⟨U2, hR2⟩ := hG2; replace hR2 := Lib.hid hR2)
    | (go_at_call 38; refine (growInt_empty K _ (hR2.out.bk.ce (i := 3) (by decide) (by decide) (by decide))).mono ?_; rintro e w7 ⟨⟨x, rfl⟩, rfl⟩)
    | (go_at_call 39; refine (growText_empty K _ (hR2.out.bk.ce (i := 4) (by decide) (by decide) (by decide))).mono ?_; rintro e w7 ⟨⟨x, rfl⟩, rfl⟩)
    | (go_at_call 40; refine (growInstr_empty K _ (hR2.out.bk.ce (i := 5) (by decide) (by decide) (by decide))).mono ?_; rintro e w7 ⟨⟨x, rfl⟩, rfl⟩)
    | (go_at_call 41; refine (growAsk_empty K _ (hR2.out.bk.ce (i := 6) (by decide) (by decide) (by decide))).mono ?_; rintro e w7 ⟨⟨x, rfl⟩, rfl⟩)
    | (go_at_call 42; refine (growTask_empty K _ (hR2.out.bk.ce (i := 7) (by decide) (by decide) (by decide))).mono ?_; rintro e w7 ⟨⟨x, rfl⟩, rfl⟩)
    | (go_at_call 43; refine (growThing_empty K _ (hR2.out.bk.ce (i := 8) (by decide) (by decide) (by decide))).mono ?_; rintro e w7 ⟨⟨x, rfl⟩, rfl⟩)
    | (go_at_call 44; refine (lookByte_empty K _ (hR2.out.bk.ce (i := 1) (by decide) (by decide) (by decide))).mono ?_; rintro e w7 ⟨rfl, rfl⟩)
    | (go_at_call 45; refine (look_ok hR2.out hq hN.out).mono ?_; rintro e w3 ⟨rfl, hg3⟩; have hR3 := Lib.hid (hR2.out.keep hg3))
    | (go_at_call 46; refine (lookInt_empty K _ (hR3.out.bk.ce (i := 3) (by decide) (by decide) (by decide))).mono ?_; rintro e w7 ⟨rfl, rfl⟩)
    | (go_at_call 47; refine (lookText_empty K _ (hR3.out.bk.ce (i := 4) (by decide) (by decide) (by decide))).mono ?_; rintro e w7 ⟨rfl, rfl⟩)
    | (go_at_call 48; refine (lookInstr_empty K _ (hR3.out.bk.ce (i := 5) (by decide) (by decide) (by decide))).mono ?_; rintro e w7 ⟨rfl, rfl⟩)
    | (go_at_call 49; refine (lookAsk_empty K _ (hR3.out.bk.ce (i := 6) (by decide) (by decide) (by decide))).mono ?_; rintro e w7 ⟨rfl, rfl⟩)
    | (go_at_call 50; refine (lookTask_empty K _ (hR3.out.bk.ce (i := 7) (by decide) (by decide) (by decide))).mono ?_; rintro e w7 ⟨rfl, rfl⟩)
    | (go_at_call 51; refine (lookThing_empty K _ (hR3.out.bk.ce (i := 8) (by decide) (by decide) (by decide))).mono ?_; rintro e w7 ⟨rfl, rfl⟩))
  go_ret
  exact ⟨rfl, ((hg1.mono (fun _ _ => Or.inl)).trans hg2).trans (Fr.of_grown hg3 (by simp))⟩
end BkWord
end Go.Proofs.YtneamjaglgnmkaaGreatDoor
