/- Package objects: a semaphore as it is seen. -/
import Derived.Test.YtneamjaglgnmkaaGreatDoorObL
namespace Go.Proofs.YtneamjaglgnmkaaGreatDoor
open Go.RowKit Go.Shelf Tk
set_option linter.unusedVariables false
set_option linter.unusedSimpArgs false
theorem isCount (q : Nat) (w : World) : (Instr.typeAssert (.iface 64 (.pointer (some ⟨q, 0, none⟩))) 61 64 true).run Tryz.prog w = .ok (.tuple #[.pointer (some ⟨q, 0, none⟩), .bool true]) w := by kernel_rfl
/-- A thing as it is seen. -/
def thV (k : Nat) (a b n o : Int) (row owners : Value) : Value := .agg #[.int .u32 0, .int .u8 k, .int .u32 a, .int .u32 b, .int .u32 n, .int .u32 o, row, owners, .int .i64 0, .slice none 0 0]
set_option maxRecDepth 100000 in
set_option maxHeartbeats 8000000 in
theorem Cnt.see {w : World} {p q : Nat} {a n m : Int} (h : Cnt w p q a n m) :
    Calls Tryz.prog 11 #[.pointer (some ⟨p, 0, none⟩)] w fun e w' => e = .returned (thV 1 a m n 0 (.slice none 0 0) (.slice none 0 0)) ∧ w.grownBy w' none := by
  have hi := h.hd.it
  have hk := h.hd.kind
  have ha := h.hd.ca
  have hb := h.hd.cb
  have hc := cell_of (i := 0) (v := .int .u32 n) h.cb rfl
  have ht := isCount q
  have hK := Lib.hid h
  have hp := h.hd.lt
  have hq := h.cb.lt
  clear h
  go_enter Tryz.func11, Tryz.ntmps11
  go_wp2_with (go_at_call 19; refine (Hd.there (hK.out.hd.keep (World.grownBy_alloc _ _ _))).mono ?_; rintro e wr ⟨rfl, rfl⟩)
  (try simp only [Exit.inBlock, Exit.then])
  refine bodyPost_ret (v := thV 1 a m n 0 (.slice none 0 0) (.slice none 0 0)) (by simp [results, Tryz.results11, go_sem, thV]) rfl ⟨rfl, grown_alloc (World.grownBy_alloc _ _ _) _⟩
end Go.Proofs.YtneamjaglgnmkaaGreatDoor
